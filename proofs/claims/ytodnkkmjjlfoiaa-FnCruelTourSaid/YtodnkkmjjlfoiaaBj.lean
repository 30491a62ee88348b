import Derived.Test.YtodnkkmjjlfoiaaBi
/- FewestFaults, both sides -/
namespace Go.Proofs.Ytodnkkmjjlfoiaa
open Go.RowKit

def pagB (k n : Int) (l : List Int) : Bool := inB k 1 6 && reqB n l
/-- the fewest faults -/
def fewN (k n : Int) (l : List Int) : Int := dpM k.toNat n.toNat (l.map Int.toNat) 0
/-- what is told of them -/
def fewV (k n : Int) (l : List Int) : Int := if pagB k n l then fewN k n l else 0
theorem pagB_facts {k n : Int} {l : List Int} (h : pagB k n l = true) : (1 ≤ k ∧ k ≤ 6) ∧ (1 ≤ n ∧ n ≤ 8) ∧ l.length ≤ 60 ∧ ∀ x ∈ l, 0 ≤ x ∧ x < n := by
  unfold pagB reqB at h
  simp only [Bool.and_eq_true, inB_iff, decide_eq_true_eq] at h
  obtain ⟨h1, ⟨h2, h3⟩, h4⟩ := h
  refine ⟨h1, h2, h3, fun x hx => ?_⟩
  unfold belowB at h4
  have := List.all_eq_true.1 h4 x hx
  simp only [inB_iff] at this
  omega
theorem toNat_back {l : List Int} (h : ∀ x ∈ l, 0 ≤ x) : l = (l.map Int.toNat).map Int.ofNat := by
  rw [List.map_map]
  conv => lhs; rw [← List.map_id l]
  exact List.map_congr_left (fun x hx => by have := h x hx; simp [Function.comp]; omega)
theorem fewN_ok {k n : Int} {l : List Int} (h : pagB k n l = true) : 0 ≤ fewN k n l ∧ Fewest k.toNat l (fewN k n l).toNat := by
  obtain ⟨h1, h2, h3, h4⟩ := pagB_facts h
  have := dpM_fewest (k := k.toNat) (n := n.toNat) (by omega) (by omega) (l.map Int.toNat) (fun x hx => by
    obtain ⟨y, hy, rfl⟩ := List.mem_map.1 hx
    have := h4 y hy
    omega)
  rw [← toNat_back (fun x hx => (h4 x hx).1)] at this
  exact this

set_option maxRecDepth 100000 in
set_option maxHeartbeats 1000000 in
theorem farthestPlan_any (K : Nat) (hK : 1 ≤ K ∧ K ≤ 6) (vr : Value) (rq : List Int) (w : World) (hr : RI No w vr rq) :
    Calls Try.prog 39 #[.int .i64 (K : Int), vr] w (Ret fun r w' => ∃ cs pl, OI w.heap.size w' r pl ∧ Pln K rq rq.length cs pl ∧ Chg No w w') := by
  obtain ⟨ra, rn, rc, rfl⟩ := hr.shape
  have k0 := (Chg.refl No w).alloc (.cells #[.slice ra rn rc] 26)
  have hc : (w.alloc (.cells #[.slice ra rn rc] 26)).cell? ⟨w.heap.size, 0, none⟩ = some (.slice ra rn rc) := by rw [World.cell?_alloc_new]; rfl
  go_enter Try.func39, Try.ntmps39
  go_wp2_with fail
  refine (planBy_any K hK _ rq _ (hr.keep k0) w.heap.size hc).mono ?_
  rintro e w1 ⟨v1, rfl, cs, pl, o1, hP, k1⟩
  obtain ⟨a1, n1, c1, rfl⟩ := o1.shape
  clear hc
  go_wp2_with fail
  go_ret
  exact ⟨_, rfl, cs, pl, o1.weak (by simp), hP, k0.keep k1⟩
set_option maxRecDepth 100000 in
set_option maxHeartbeats 1000000 in
theorem fewestFaults_any (K : Nat) (hK : 1 ≤ K ∧ K ≤ 6) (vr : Value) (rq : List Int) (w : World) (hr : RI No w vr rq) (hneg : ∀ x ∈ rq, 0 ≤ x) (hl60 : rq.length ≤ 60) (f : Nat) (hf : Fewest K rq f) :
    Calls Try.prog 29 #[.int .i64 (K : Int), vr] w (Ret fun r w' => r = .int .i64 (f : Int) ∧ Chg No w w') := by
  have HNEG := Lib.hid hneg
  clear hneg
  obtain ⟨ra, rn, rc, rfl⟩ := hr.shape
  go_enter Try.func29, Try.ntmps29
  go_wp2_with fail
  refine (farthestPlan_any K hK _ rq w hr).mono ?_
  rintro e w1 ⟨v1, rfl, cs, pl, o1, hP, k1⟩
  obtain ⟨a1, n1, c1, rfl⟩ := o1.shape
  go_wp2_with fail
  refine (played_any K hK _ _ rq pl cs w1 (hr.keep k1) o1.readNo hP HNEG.out hl60).mono ?_
  rintro e w2 ⟨_, rfl, ⟨v0, rfl⟩, k2⟩
  have hfe : missC rq cs rq.length = f := (far_fewest hP.far).uni hf
  have HF := Lib.hid hfe
  clear hfe
  go_wp2_with fail
  go_ret
  exact ⟨_, rfl, by rw [HF.out]; rfl, k1.keep k2⟩
end Go.Proofs.Ytodnkkmjjlfoiaa
