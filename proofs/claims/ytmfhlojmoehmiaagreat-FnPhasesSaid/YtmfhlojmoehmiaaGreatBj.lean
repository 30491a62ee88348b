import Derived.Test.YtmfhlojmoehmiaaGreatBi
/- FewestFaults, both sides -/
namespace Go.Proofs.YtmfhlojmoehmiaaGreat
open Go.RowKit

def pagB (k n : Int) (l : List Int) : Bool := inB k 1 6 && reqB n l
/-- the fewest faults -/
def fewN (k n : Int) (l : List Int) : Int := dpM k.toNat n.toNat (l.map Int.toNat) 0
/-- what is told of them -/
def fewV (k n : Int) (l : List Int) : Int := if pagB k n l then fewN k n l else 0
theorem pagB_facts {k n : Int} {l : List Int} (h : pagB k n l = true) : (1 ≤ k ∧ k ≤ 6) ∧ (1 ≤ n ∧ n ≤ 8) ∧ l.length ≤ 60 ∧ ∀ x ∈ l, 0 ≤ x ∧ x < n := by
  unfold pagB reqB at h
  simp only [Bool.and_eq_true, inB_iff, decide_eq_true_eq] at h
  obtain ⟨h1, ⟨h2, h3⟩, h4⟩ := h
  refine ⟨h1, h2, h3, fun x hx => ?_⟩
  unfold belowB at h4
  have := List.all_eq_true.1 h4 x hx
  simp only [inB_iff] at this
  omega
theorem toNat_back {l : List Int} (h : ∀ x ∈ l, 0 ≤ x) : l = (l.map Int.toNat).map Int.ofNat := by
  rw [List.map_map]
  conv => lhs; rw [← List.map_id l]
  exact List.map_congr_left (fun x hx => by have := h x hx; simp [Function.comp]; omega)
theorem fewN_ok {k n : Int} {l : List Int} (h : pagB k n l = true) : 0 ≤ fewN k n l ∧ Fewest k.toNat l (fewN k n l).toNat := by
  obtain ⟨h1, h2, h3, h4⟩ := pagB_facts h
  have := dpM_fewest (k := k.toNat) (n := n.toNat) (by omega) (by omega) (l.map Int.toNat) (fun x hx => by
    obtain ⟨y, hy, rfl⟩ := List.mem_map.1 hx
    have := h4 y hy
    omega)
  rw [← toNat_back (fun x hx => (h4 x hx).1)] at this
  exact this

set_option maxRecDepth 100000 in
set_option maxHeartbeats 1000000 in
theorem farthestPlan_any (K : Nat) (hK : 1 ≤ K ∧ K ≤ 6) (vr : Value) (rq : List Int) (w : World) (hr : RI No w vr rq) :
    Calls Tryz.prog 165 #[.int .i64 (K : Int), vr] w (Ret fun r w' => ∃ cs pl, OI w.heap.size w' r pl ∧ Pln K rq rq.length cs pl ∧ Chg No w w') := by
  obtain ⟨ra, rn, rc, rfl⟩ := hr.shape
  have k0 := (Chg.refl No w).alloc (.cells #[.slice ra rn rc] 23)
  have hc : (w.alloc (.cells #[.slice ra rn rc] 23)).cell? ⟨w.heap.size, 0, none⟩ = some (.slice ra rn rc) := by rw [World.cell?_alloc_new]; rfl
  go_enter Tryz.func165, Tryz.ntmps165
  go_wp2_with fail
  refine (planBy_any K hK _ rq _ (hr.keep k0) w.heap.size hc).mono ?_
  rintro e w1 ⟨v1, rfl, cs, pl, o1, hP, k1⟩
  obtain ⟨a1, n1, c1, rfl⟩ := o1.shape
  clear hc
  go_wp2_with fail
  go_ret
  exact ⟨_, rfl, cs, pl, o1.weak (by simp), hP, k0.keep k1⟩
set_option maxRecDepth 100000 in
set_option maxHeartbeats 1000000 in
theorem fewestFaults_any (K : Nat) (hK : 1 ≤ K ∧ K ≤ 6) (vr : Value) (rq : List Int) (w : World) (hr : RI No w vr rq) (hneg : ∀ x ∈ rq, 0 ≤ x) (hl60 : rq.length ≤ 60) (f : Nat) (hf : Fewest K rq f) :
    Calls Tryz.prog 98 #[.int .i64 (K : Int), vr] w (Ret fun r w' => r = .int .i64 (f : Int) ∧ Chg No w w') := by
  have HNEG := Lib.hid hneg
  clear hneg
  obtain ⟨ra, rn, rc, rfl⟩ := hr.shape
  go_enter Tryz.func98, Tryz.ntmps98
  go_wp2_with fail
  refine (farthestPlan_any K hK _ rq w hr).mono ?_
  rintro e w1 ⟨v1, rfl, cs, pl, o1, hP, k1⟩
  obtain ⟨a1, n1, c1, rfl⟩ := o1.shape
  go_wp2_with fail
  refine (played_any K hK _ _ rq pl cs w1 (hr.keep k1) o1.readNo hP HNEG.out hl60).mono ?_
  rintro e w2 ⟨_, rfl, ⟨v0, rfl⟩, k2⟩
  have hfe : missC rq cs rq.length = f := (far_fewest hP.far).uni hf
  have HF := Lib.hid hfe
  clear hfe
  go_wp2_with fail
  go_ret
  exact ⟨_, rfl, by rw [HF.out]; rfl, k1.keep k2⟩
set_option maxRecDepth 100000 in
set_option maxHeartbeats 1000000 in
theorem isPaging_any (A : Nat → Prop) (k n : Int) (vr : Value) (rq : List Int) (w : World) (hr : RI A w vr rq) :
    Calls Tryz.prog 97 #[.int .i64 k, .int .i64 n, vr] w (Ret fun r w' => r = .bool (pagB k n rq) ∧ Chg No w w') := by
  obtain ⟨ra, rn, rc, rfl⟩ := hr.shape
  cases h : inB k 1 6
  · have H : Hid (pagB k n rq = false) := Lib.hid (by unfold pagB; rw [h]; rfl)
    have HI := Lib.hid h
    clear h
    go_enter Tryz.func97, Tryz.ntmps97
    go_wp2_with (go_at_call 119; refine (isSize_any _ _).mono ?_; rintro e w' ⟨rfl, hww⟩; subst hww; rw [HI.out])
    go_ret
    exact ⟨_, rfl, by rw [H.out]; rfl, Chg.refl _ _⟩
  · have H : Hid (pagB k n rq = (inB n 1 8 && decide (rq.length ≤ 60) && belowB n rq)) := Lib.hid (by unfold pagB; rw [h]; rfl)
    have HI := Lib.hid h
    clear h
    go_enter Tryz.func97, Tryz.ntmps97
    go_wp2_with (go_at_call 119; refine (isSize_any _ _).mono ?_; rintro e w' ⟨rfl, hww⟩; subst hww; rw [HI.out])
    refine (IsRequests_any A _ rq n w hr).mono ?_
    rintro e w1 ⟨_, rfl, rfl, k1⟩
    rw [← H.out]
    go_wp2_with fail
    go_ret
    exact ⟨_, rfl, rfl, k1⟩
set_option maxRecDepth 100000 in
set_option maxHeartbeats 1000000 in
theorem implFewest_any (k n : Int) (vr : Value) (rq : List Int) (w : World) (hr : RI No w vr rq) :
    Calls Tryz.prog 46 #[.int .i64 k, .int .i64 n, vr] w (Ret2 fun v0 v1 w' => v0 = .int .i64 (fewV k n rq) ∧ v1 = .bool (pagB k n rq) ∧ Chg No w w') := by
  obtain ⟨ra, rn, rc, rfl⟩ := hr.shape
  go_enter Tryz.func46, Tryz.ntmps46
  go_wp2_with fail
  refine (isPaging_any No k n _ rq w hr).mono ?_
  rintro e w1 ⟨_, rfl, rfl, k1⟩
  cases h : pagB k n rq
  · have HV : Hid (fewV k n rq = 0) := Lib.hid (by unfold fewV; rw [h]; rfl)
    have HQ := Lib.hid h
    clear h
    go_wp2_with fail
    go_ret2
    exact ⟨_, _, rfl, by rw [HV.out]; rfl, by rw [HQ.out]; rfl, k1⟩
  · have hv : fewV k n rq = fewN k n rq := by unfold fewV; rw [h]; rfl
    obtain ⟨h1, h2, h3, h4⟩ := pagB_facts h
    obtain ⟨f0, f1⟩ := fewN_ok h
    obtain ⟨K, rfl⟩ := Int.eq_ofNat_of_zero_le (show 0 ≤ k by omega)
    obtain ⟨f, hf⟩ := Int.eq_ofNat_of_zero_le f0
    rw [hf, Int.toNat_natCast, Int.toNat_natCast] at f1
    have HQ := Lib.hid h
    have HF := Lib.hid (hv.trans hf)
    have H4 := Lib.hid h4
    clear h4 h hf f0 hv
    go_wp2_with fail
    refine (fewestFaults_any K (by omega) _ rq w1 (hr.keep k1) (fun x hx => (H4.out x hx).1) h3 f f1).mono ?_
    rintro e w2 ⟨_, rfl, rfl, k2⟩
    go_wp2_with fail
    go_ret2
    exact ⟨_, _, rfl, by rw [HF.out]; rfl, by rw [HQ.out]; rfl, k1.keep k2⟩

set_option maxRecDepth 100000 in
set_option maxHeartbeats 1000000 in
theorem l5Takes_any (A : Nat → Prop) (k n : Int) (vr : Value) (rq : List Int) (w : World) (hr : RI A w vr rq) :
    Calls Tryz.prog 122 #[.int .i64 k, .int .i64 n, vr] w fun e w' => e = .returned (.bool (pagB k n rq)) ∧ w = w' := by
  obtain ⟨ra, rn, rc, rfl⟩ := hr.shape
  cases h : inB k 1 6
  · have H : Hid (pagB k n rq = false) := Lib.hid (by unfold pagB; rw [h]; rfl)
    have HI := Lib.hid h
    clear h
    go_enter Tryz.func122, Tryz.ntmps122
    go_wp2_with (go_at_call 128; refine (l1In_any _ _ _ _).mono ?_; rintro e w' ⟨rfl, hww⟩; subst hww; rw [HI.out])
    go_ret
    exact ⟨ret_bool H.out.symm, rfl⟩
  · have H : Hid (pagB k n rq = (inB n 1 8 && decide (rq.length ≤ 60) && belowB n rq)) := Lib.hid (by unfold pagB; rw [h]; rfl)
    have HI := Lib.hid h
    clear h
    go_enter Tryz.func122, Tryz.ntmps122
    go_wp2_with (go_at_call 128; refine (l1In_any _ _ _ _).mono ?_; rintro e w' ⟨rfl, hww⟩; subst hww; rw [HI.out])
    refine (l3Good_any A _ rq n w hr).mono ?_
    rintro e w1 ⟨rfl, rfl⟩
    rw [← H.out]
    go_wp2_with fail
    go_ret
    exact ⟨rfl, rfl⟩
set_option maxRecDepth 100000 in
set_option maxHeartbeats 1000000 in
theorem l5Opt_any (k n : Int) (vr : Value) (rq : List Int) (w : World) (hr : RI No w vr rq) (hp : pagB k n rq = true) :
    Calls Tryz.prog 123 #[.int .i64 k, .int .i64 n, vr] w (Ret fun r w' => r = .int .i64 (fewN k n rq) ∧ Chg No w w') := by
  obtain ⟨h1, h2, h3, h4⟩ := pagB_facts hp
  have hlr := toNat_back (fun x hx => (h4 x hx).1)
  have HLR := Lib.hid hlr
  have hlow : ∀ x ∈ rq.map Int.toNat, x < n.toNat := fun x hx => by
    obtain ⟨y, hy, rfl⟩ := List.mem_map.1 hx
    have := h4 y hy
    omega
  have HLOW := Lib.hid hlow
  obtain ⟨K, rfl⟩ := Int.eq_ofNat_of_zero_le (show 0 ≤ k by omega)
  obtain ⟨N, rfl⟩ := Int.eq_ofNat_of_zero_le (show 0 ≤ n by omega)
  have HV : Hid (fewN (K : Int) (N : Int) rq = dpM K N (rq.map Int.toNat) 0) := Lib.hid rfl
  obtain ⟨ra, rn, rc, rfl⟩ := hr.shape
  clear hlr hlow h4 hp
  go_enter Tryz.func123, Tryz.ntmps123
  go_wp2_with fail
  refine (l5Fewest_any K N (by omega) (by omega) _ rq (rq.map Int.toNat) w hr HLR.out HLOW.out (by rw [List.length_map]; exact h3)).mono ?_
  rintro e w1 ⟨_, rfl, g, b, M, c, rfl, c1, hM, c2, k1⟩
  obtain ⟨z, hz⟩ : ∃ z, (rq.map Int.toNat).length + 1 = z := ⟨_, rfl⟩
  rw [hz]
  have hz0 : (0 : Int) < (z : Int) := by omega
  have hM0 : (0 : Int) < (M : Int) := by omega
  clear hz
  go_wp2_with fail
  go_ret
  exact ⟨_, rfl, by rw [HV.out]; rfl, k1⟩
set_option maxRecDepth 100000 in
set_option maxHeartbeats 1000000 in
theorem specFewest_any (k n : Int) (vr : Value) (rq : List Int) (w : World) (hr : RI No w vr rq) :
    Calls Tryz.prog 58 #[.int .i64 k, .int .i64 n, vr] w (Ret2 fun v0 v1 w' => v0 = .int .i64 (fewV k n rq) ∧ v1 = .bool (pagB k n rq) ∧ Chg No w w') := by
  obtain ⟨ra, rn, rc, rfl⟩ := hr.shape
  go_enter Tryz.func58, Tryz.ntmps58
  go_wp2_with fail
  refine (l5Takes_any No k n _ rq w hr).mono ?_
  rintro e w1 ⟨rfl, rfl⟩
  cases h : pagB k n rq
  · have HV : Hid (fewV k n rq = 0) := Lib.hid (by unfold fewV; rw [h]; rfl)
    have HQ := Lib.hid h
    clear h
    go_wp2_with fail
    go_ret2
    exact ⟨_, _, rfl, by rw [HV.out]; rfl, by rw [HQ.out]; rfl, Chg.refl _ _⟩
  · have HV : Hid (fewV k n rq = fewN k n rq) := Lib.hid (by unfold fewV; rw [h]; rfl)
    have HQ := Lib.hid h
    have H := Lib.hid h
    clear h
    go_wp2_with fail
    refine (l5Opt_any k n _ rq w hr H.out).mono ?_
    rintro e w2 ⟨_, rfl, rfl, k2⟩
    go_wp2_with fail
    go_ret2
    exact ⟨_, _, rfl, by rw [HV.out]; rfl, by rw [HQ.out]; rfl, k2⟩
end Go.Proofs.YtmfhlojmoehmiaaGreat
