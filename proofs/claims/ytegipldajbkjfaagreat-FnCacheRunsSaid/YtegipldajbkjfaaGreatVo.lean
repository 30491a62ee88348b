import Derived.Test.YtegipldajbkjfaaGreatGe
import Derived.Test.YtegipldajbkjfaaGreatOw
import Derived.Test.YtegipldajbkjfaaGreatVi
import Derived.Test.YtegipldajbkjfaaGreatO
/- VictimsOf, both sides -/
namespace Go.Proofs.YtegipldajbkjfaaGreat
open Go.RowKit

theorem putL_old {l : List Int} {n : Int} (h : Up l) (hn : n ∈ l) : putL l n = l := by
  induction l with
  | nil => cases hn
  | cons a l ih =>
    unfold Up at h
    rw [List.pairwise_cons] at h
    unfold putL
    rcases List.mem_cons.1 hn with rfl | hn
    · simp
    · have := h.1 n hn
      rw [if_pos this, ih h.2 hn]
theorem foldl_put_nod : ∀ (l acc : List Int), Up acc → (l.foldl putL acc).length = acc.length + l.length → l.Nodup ∧ ∀ x ∈ l, x ∉ acc
  | [], acc, _, _ => ⟨List.nodup_nil, fun x h => by cases h⟩
  | a :: l, acc, hu, h => by
    rw [List.foldl_cons, List.length_cons] at h
    have h1 : ∀ (l acc : List Int), (l.foldl putL acc).length ≤ acc.length + l.length := by
      intro l
      induction l with
      | nil => simp
      | cons a l ih => intro acc; have := ih (putL acc a); have := putL_len acc a; simp only [List.foldl_cons, List.length_cons]; omega
    have h2 := h1 l (putL acc a)
    have h3 := putL_len acc a
    obtain ⟨g1, g2⟩ := foldl_put_nod l (putL acc a) (putL_up a hu) (by omega)
    have ha : a ∉ acc := fun hm => by have := congrArg List.length (putL_old hu hm); omega
    refine ⟨List.nodup_cons.2 ⟨fun hm => g2 a hm (putL_mem.2 (.inr rfl)), g1⟩, fun x hx => ?_⟩
    rcases List.mem_cons.1 hx with rfl | hx
    · exact ha
    · exact fun hm => g2 x hx (putL_mem.2 (.inl hm))
theorem goodC_nod {n : Int} {c : Ca} (h : goodC n c = true) : c.pages.Nodup := by
  simp only [goodC, Bool.and_eq_true, decide_eq_true_eq] at h
  exact (foldl_put_nod c.pages [] List.Pairwise.nil (by have := h.1.1.2; unfold diffL at this; simpa using this)).1
theorem victL_up (c : Ca) (x : Int) : Up (victL c x) := by
  unfold victL
  split
  · exact List.Pairwise.nil
  · split
    · exact diffL_up _
    · simp [Up]
theorem gone_vict {n : Int} {c : Ca} (h : goodC n c = true) (x : Int) : diffL (stay (hasB (stepC c x).pages) c.pages) = victL c x :=
  up_ext (diffL_up _) (victL_up c x) (gone_mem (goodC_ok h) (goodC_nod h) x)
def okB (n : Int) (c : Ca) (x : Int) : Bool := goodC n c && inB x 0 (n - 1)
def victV (n : Int) (c : Ca) (x : Int) : List Int := if okB n c x then victL c x else []

set_option maxRecDepth 100000 in
set_option maxHeartbeats 1000000 in
theorem specVictimsOf_any (A : Nat → Prop) (n x : Int) (v : Value) (c : Ca) (w : World) (h : RC A w v c) :
    Calls Tryz.prog 15 #[.int .i64 n, v, .int .i64 x] w (Ret2 fun v0 v1 w' => v1 = .bool (okB n c x) ∧ OI w.heap.size w' v0 (victV n c x) ∧ Chg No w w') := by
  have hv := h
  obtain ⟨pv, mv, rfl, hp, hmk⟩ := h
  obtain ⟨pa, pn, pc, rfl⟩ := hp.shape
  obtain ⟨ma, mn, mc, rfl⟩ := hmk.shape
  have k0 := (Chg.refl No w).alloc (.cells #[.int .i64 c.pol, .int .i64 c.size, .slice pa pn pc, .slice ma mn mc, .int .i64 c.hand] 26)
  have bx := Box.new w (.int .i64 c.pol) (.int .i64 c.size) (.slice pa pn pc) (.slice ma mn mc) (.int .i64 c.hand) 26
  cases hg : goodC n c
  · have HO : Hid (okB n c x = false) := Lib.hid (by simp [okB, hg])
    have HV : Hid (victV n c x = []) := Lib.hid (by simp [victV, okB, hg])
    have HG := Lib.hid hg
    clear hg
    go_enter Tryz.func15, Tryz.ntmps15
    go_wp2_with fail
    refine (l4Good_any A n _ c _ (hv.keep k0)).mono ?_
    rintro e w1 ⟨_, rfl, rfl, k1⟩
    rw [HG.out]
    go_wp2_with fail
    go_ret2
    exact ⟨_, _, rfl, by rw [HO.out]; rfl, by rw [HV.out]; exact (OI.zero (Nat.le_trans k0.size k1.size)), (k0.keep k1).alloc _⟩
  · have hn := goodC_items hg
    have hw1 : IntKind.i64.wrap (n - 1) = n - 1 := IntWalk.i64_in _ (by omega)
    cases hi : inB x 0 (n - 1)
    · have HO : Hid (okB n c x = false) := Lib.hid (by simp [okB, hi])
      have HV : Hid (victV n c x = []) := Lib.hid (by simp [victV, okB, hi])
      have HG := Lib.hid hg
      have HI := Lib.hid hi
      clear hg hi hn
      go_enter Tryz.func15, Tryz.ntmps15
      go_wp2_with fail
      refine (l4Good_any A n _ c _ (hv.keep k0)).mono ?_
      rintro e w1 ⟨_, rfl, rfl, k1⟩
      rw [HG.out]
      go_wp2_with fail
      refine (l1In_any _ _ _ _).mono ?_
      rintro e w2 ⟨rfl, rfl⟩
      rw [HI.out]
      go_wp2_with fail
      go_ret2
      exact ⟨_, _, rfl, by rw [HO.out]; rfl, by rw [HV.out]; exact (OI.zero (Nat.le_trans k0.size k1.size)), (k0.keep k1).alloc _⟩
    · have HO : Hid (okB n c x = true) := Lib.hid (by simp [okB, hg, hi])
      have HV : Hid (victV n c x = victL c x) := Lib.hid (by simp [victV, okB, hg, hi])
      have HG := Lib.hid hg
      have HI := Lib.hid hi
      clear hg hi hn
      go_enter Tryz.func15, Tryz.ntmps15
      go_wp2_with fail
      refine (l4Good_any A n _ c _ (hv.keep k0)).mono ?_
      rintro e w1 ⟨_, rfl, rfl, k1⟩
      rw [HG.out]
      obtain ⟨c0, c1, c2, c3, c4, fr⟩ := bx.keep k1
      go_wp2_with fail
      refine (l1In_any _ _ _ _).mono ?_
      rintro e w2 ⟨rfl, rfl⟩
      rw [HI.out]
      go_wp2_with fail
      refine (l4Victims_any A _ c x _ ((hv.keep k0).keep k1) (goodC_ok HG.out)).mono ?_
      rintro e w3 ⟨v3, rfl, o3, k3⟩
      go_wp2_with fail
      go_ret2
      exact ⟨_, _, rfl, by rw [HO.out]; rfl, by rw [HV.out]; exact o3.weak (Nat.le_trans k0.size k1.size), (k0.keep k1).keep k3⟩

set_option maxRecDepth 100000 in
set_option maxHeartbeats 1000000 in
theorem isCached_any (A : Nat → Prop) (n x : Int) (v : Value) (c : Ca) (w : World) (h : RC A w v c) :
    Calls Tryz.prog 56 #[.int .i64 n, v, .int .i64 x] w (Ret fun r w' => r = .bool (okB n c x) ∧ Chg No w w') := by
  have hv := h
  obtain ⟨pv, mv, rfl, hp, hmk⟩ := h
  obtain ⟨pa, pn, pc, rfl⟩ := hp.shape
  obtain ⟨ma, mn, mc, rfl⟩ := hmk.shape
  have k0 := (Chg.refl No w).alloc (.cells #[.int .i64 c.pol, .int .i64 c.size, .slice pa pn pc, .slice ma mn mc, .int .i64 c.hand] 26)
  cases hg : goodC n c
  · have HO : Hid (okB n c x = false) := Lib.hid (by simp [okB, hg])
    have HG := Lib.hid hg
    clear hg
    go_enter Tryz.func56, Tryz.ntmps56
    go_wp2_with fail
    refine (IsCache_any A n _ c _ (hv.keep k0)).mono ?_
    rintro e w1 ⟨_, rfl, rfl, k1⟩
    rw [HG.out]
    go_wp2_with fail
    go_ret
    exact ⟨_, rfl, by rw [HO.out]; rfl, k0.keep k1⟩
  · have hn := goodC_items hg
    have hw1 : IntKind.i64.wrap (n - 1) = n - 1 := IntWalk.i64_in _ (by omega)
    have HO : Hid (okB n c x = inB x 0 (n - 1)) := Lib.hid (by simp [okB, hg])
    have HG := Lib.hid hg
    clear hg hn
    go_enter Tryz.func56, Tryz.ntmps56
    go_wp2_with fail
    refine (IsCache_any A n _ c _ (hv.keep k0)).mono ?_
    rintro e w1 ⟨_, rfl, rfl, k1⟩
    rw [HG.out]
    go_wp2_with fail
    refine (within_any _ _ _ _).mono ?_
    rintro e w2 ⟨rfl, rfl⟩
    go_wp2_with fail
    go_ret
    exact ⟨_, rfl, by rw [HO.out]; rfl, k0.keep k1⟩

/-- a Cache by value, laid into a block -/
theorem RCO.mc {base : Nat} {w W : World} {p k hd : Int} {pv mv : Value} {ps ms : List Int} {b : Nat} (h : RCO base w (.agg #[.int .i64 p, .int .i64 k, pv, mv, .int .i64 hd]) ⟨p, k, ps, ms, hd⟩) (hc : Chg No w W)
    (hb : Box W b (.int .i64 p) (.int .i64 k) pv mv (.int .i64 hd)) (hl : w.heap.size ≤ b) : MC base W b ⟨p, k, ps, ms, hd⟩ pv mv := by
  obtain ⟨pv', mv', e, h1, h2, h3⟩ := h
  simp only [Value.agg.injEq, Array.mk.injEq, List.cons.injEq, and_true, true_and] at e
  obtain ⟨rfl, rfl⟩ := e
  exact ⟨hb, h1.keep hc, h2.keep hc, h3, fun hq => by have := (h1.lt _ hq).2; omega, fun hq => by have := (h2.lt _ hq).2; omega⟩

set_option maxRecDepth 100000 in
set_option maxHeartbeats 1000000 in
theorem implVictimsOf_any (A : Nat → Prop) (n x : Int) (v : Value) (c : Ca) (w : World) (h : RC A w v c) :
    Calls Tryz.prog 14 #[.int .i64 n, v, .int .i64 x] w (Ret2 fun v0 v1 w' => v1 = .bool (okB n c x) ∧ OI w.heap.size w' v0 (victV n c x) ∧ Chg No w w') := by
  have hv := h
  obtain ⟨p, k, ps, m, hd⟩ := c
  obtain ⟨pv, mv, rfl, hp, hmk⟩ := h
  simp only at hp hmk hv
  obtain ⟨pa, pn, pc, rfl⟩ := hp.shape
  obtain ⟨ma, mn, mc, rfl⟩ := hmk.shape
  have k0 := (Chg.refl No w).alloc (.cells #[.int .i64 p, .int .i64 k, .slice pa pn pc, .slice ma mn mc, .int .i64 hd] 26)
  have bx := Box.new w (.int .i64 p) (.int .i64 k) (.slice pa pn pc) (.slice ma mn mc) (.int .i64 hd) 26
  have hz0 : (w.alloc (.cells #[.int .i64 p, .int .i64 k, .slice pa pn pc, .slice ma mn mc, .int .i64 hd] 26)).heap.size = w.heap.size + 1 := by simp
  cases ho : okB n ⟨p, k, ps, m, hd⟩ x
  · have HV : Hid (victV n ⟨p, k, ps, m, hd⟩ x = []) := Lib.hid (by simp [victV, ho])
    have HO := Lib.hid ho
    clear ho
    go_enter Tryz.func14, Tryz.ntmps14
    go_wp2_with fail
    refine (isCached_any A n x _ ⟨p, k, ps, m, hd⟩ _ (hv.keep k0)).mono ?_
    rintro e w1 ⟨_, rfl, rfl, k1⟩
    rw [HO.out]
    go_wp2_with fail
    go_ret2
    exact ⟨_, _, rfl, rfl, by rw [HV.out]; exact OI.nil _ _, k0.keep k1⟩
  · have hgd : goodC n ⟨p, k, ps, m, hd⟩ = true := by simp only [okB, Bool.and_eq_true] at ho; exact ho.1
    have HV : Hid (victV n ⟨p, k, ps, m, hd⟩ x = diffL (stay (hasB (stepC ⟨p, k, ps, m, hd⟩ x).pages) ps)) := Lib.hid (by rw [victV, if_pos ho, ← gone_vict hgd])
    have HO := Lib.hid ho
    have HG := Lib.hid hgd
    clear ho hgd
    go_enter Tryz.func14, Tryz.ntmps14
    go_wp2_with fail
    refine (isCached_any A n x _ ⟨p, k, ps, m, hd⟩ _ (hv.keep k0)).mono ?_
    rintro e w1 ⟨_, rfl, rfl, k1⟩
    rw [HO.out]
    have bx := bx.keep k1
    obtain ⟨c0, c1, c2, c3, c4, fr⟩ := id bx
    go_wp2_with fail
    refine (ownCache_any A _ ⟨p, k, ps, m, hd⟩ _ ((hv.keep k0).keep k1)).mono ?_
    rintro e w2 ⟨v2, rfl, o2, k2⟩
    have o2' := o2
    obtain ⟨pv2, mv2, rfl, hp2, hm2, _⟩ := o2
    obtain ⟨a2, n2, q2, rfl⟩ := hp2.shape
    obtain ⟨a3, n3, q3, rfl⟩ := hm2.shape
    have bx := bx.keep k2
    clear c0 c1 c2 c3 c4 fr
    go_wp2_with fail
    have ka := (((k0.keep k1).keep k2).alloc (.cells #[.int .i64 p, .int .i64 k, .slice a2 n2 q2, .slice a3 n3 q3, .int .i64 hd] 26))
    have kal := (Chg.refl No w2).alloc (.cells #[.int .i64 p, .int .i64 k, .slice a2 n2 q2, .slice a3 n3 q3, .int .i64 hd] 26)
    have mc := o2'.mc kal (Box.new w2 _ _ _ _ _ _) (Nat.le_refl _)
    have hz1 := k1.size
    have hz2 := k2.size
    have hf : ∀ q, foot w2.heap.size (.slice a2 n2 q2) (.slice a3 n3 q3) q → w1.heap.size ≤ q := fun q hq => by
      rcases hq with rfl | hq | hq
      · exact hz2
      · exact (mc.pages.lt q hq).1
      · exact (mc.marks.lt q hq).1
    have bx := bx.keep kal
    refine (step_any w1.heap.size w2.heap.size ⟨p, k, ps, m, hd⟩ x _ _ _ mc (by rw [World.size_alloc]; omega) (goodC_ok HG.out)).mono ?_
    rintro e w3 ⟨_, rfl, rfl, pv3, mv3, mc3, k3, f3⟩
    have bx := bx.step k3 (fun hq => by have := hf _ hq; omega)
    have kw := ka.step k3 (fun q hq hl => by have := hf _ hq; omega)
    obtain ⟨a4, n4, q4, rfl⟩ := mc3.pages.shape
    obtain ⟨c0, c1, c2, c3, c4, fr⟩ := id bx
    have d2 := mc3.box.c2
    clear mc k3 kal f3
    go_wp2_with fail
    refine (goneBy_any No _ _ _ _ w3 ((hp.keep kw).weak (fun _ e _ => e.elim)) mc3.pages.readNo).mono ?_
    rintro e w4 ⟨v4, rfl, o4, k4⟩
    go_wp2_with fail
    go_ret2
    exact ⟨_, _, rfl, rfl, by rw [HV.out]; exact o4.weak kw.size, kw.keep k4⟩
end Go.Proofs.YtegipldajbkjfaaGreat
