import Derived.Test.YtdgcohoneijleaaGreatBb
import Derived.Test.YtdgcohoneijleaaGreatPkX9
import Derived.Test.YtdgcohoneijleaaGreatPkX3
import Derived.Test.YtdgcohoneijleaaGreatPkX2
import Derived.Test.YtdgcohoneijleaaGreatBg
import Derived.Test.YtdgcohoneijleaaGreatQv
import Derived.Test.YtdgcohoneijleaaGreatL
/- FewestFaults, both sides -/
namespace Go.Proofs.YtdgcohoneijleaaGreat
open Go.RowKit

def pagB (k n : Int) (l : List Int) : Bool := inB k 1 6 && reqB n l
/-- the fewest faults -/
def fewN (k n : Int) (l : List Int) : Int := dpM k.toNat n.toNat (l.map Int.toNat) 0
/-- what is told of them -/
def fewV (k n : Int) (l : List Int) : Int := if pagB k n l then fewN k n l else 0
theorem pagB_facts {k n : Int} {l : List Int} (h : pagB k n l = true) : (1 ≤ k ∧ k ≤ 6) ∧ (1 ≤ n ∧ n ≤ 8) ∧ l.length ≤ 60 ∧ ∀ x ∈ l, 0 ≤ x ∧ x < n := by
  unfold pagB reqB at h
  simp only [Bool.and_eq_true, inB_iff, decide_eq_true_eq] at h
  obtain ⟨h1, ⟨h2, h3⟩, h4⟩ := h
  refine ⟨h1, h2, h3, fun x hx => ?_⟩
  unfold belowB at h4
  have := List.all_eq_true.1 h4 x hx
  simp only [inB_iff] at this
  omega
theorem toNat_back {l : List Int} (h : ∀ x ∈ l, 0 ≤ x) : l = (l.map Int.toNat).map Int.ofNat := by
  rw [List.map_map]
  conv => lhs; rw [← List.map_id l]
  exact List.map_congr_left (fun x hx => by have := h x hx; simp [Function.comp]; omega)
theorem fewN_ok {k n : Int} {l : List Int} (h : pagB k n l = true) : 0 ≤ fewN k n l ∧ Fewest k.toNat l (fewN k n l).toNat := by
  obtain ⟨h1, h2, h3, h4⟩ := pagB_facts h
  have := dpM_fewest (k := k.toNat) (n := n.toNat) (by omega) (by omega) (l.map Int.toNat) (fun x hx => by
    obtain ⟨y, hy, rfl⟩ := List.mem_map.1 hx
    have := h4 y hy
    omega)
  rw [← toNat_back (fun x hx => (h4 x hx).1)] at this
  exact this

set_option maxRecDepth 100000 in
set_option maxHeartbeats 1000000 in
theorem farthestPlan_any (K : Nat) (hK : 1 ≤ K ∧ K ≤ 6) (vr : Value) (rq : List Int) (w : World) (hr : RI No w vr rq) :
    Calls Tryz.prog 48 #[.int .i64 (K : Int), vr] w (Ret fun r w' => ∃ cs pl, OI w.heap.size w' r pl ∧ Pln K rq rq.length cs pl ∧ Chg No w w') := by
  obtain ⟨ra, rn, rc, rfl⟩ := hr.shape
  have k0 := (Chg.refl No w).alloc (.cells #[.slice ra rn rc] 25)
  have hc : (w.alloc (.cells #[.slice ra rn rc] 25)).cell? ⟨w.heap.size, 0, none⟩ = some (.slice ra rn rc) := by rw [World.cell?_alloc_new]; rfl
  go_enter Tryz.func48, Tryz.ntmps48
  go_wp2_with fail
  refine (planBy_any K hK _ rq _ (hr.keep k0) w.heap.size hc).mono ?_
  rintro e w1 ⟨v1, rfl, cs, pl, o1, hP, k1⟩
  obtain ⟨a1, n1, c1, rfl⟩ := o1.shape
  clear hc
  go_wp2_with fail
  go_ret
  exact ⟨_, rfl, cs, pl, o1.weak (by simp), hP, k0.keep k1⟩
set_option maxRecDepth 100000 in
set_option maxHeartbeats 1000000 in
theorem fewestFaults_any (K : Nat) (hK : 1 ≤ K ∧ K ≤ 6) (vr : Value) (rq : List Int) (w : World) (hr : RI No w vr rq) (hneg : ∀ x ∈ rq, 0 ≤ x) (hl60 : rq.length ≤ 60) (f : Nat) (hf : Fewest K rq f) :
    Calls Tryz.prog 25 #[.int .i64 (K : Int), vr] w (Ret fun r w' => r = .int .i64 (f : Int) ∧ Chg No w w') := by
  have HNEG := Lib.hid hneg
  clear hneg
  obtain ⟨ra, rn, rc, rfl⟩ := hr.shape
  go_enter Tryz.func25, Tryz.ntmps25
  go_wp2_with fail
  refine (farthestPlan_any K hK _ rq w hr).mono ?_
  rintro e w1 ⟨v1, rfl, cs, pl, o1, hP, k1⟩
  obtain ⟨a1, n1, c1, rfl⟩ := o1.shape
  go_wp2_with fail
  refine (played_any K hK _ _ rq pl cs w1 (hr.keep k1) o1.readNo hP HNEG.out hl60).mono ?_
  rintro e w2 ⟨_, rfl, ⟨v0, rfl⟩, k2⟩
  have hfe : missC rq cs rq.length = f := (far_fewest hP.far).uni hf
  have HF := Lib.hid hfe
  clear hfe
  go_wp2_with fail
  go_ret
  exact ⟨_, rfl, by rw [HF.out]; rfl, k1.keep k2⟩
set_option maxRecDepth 100000 in
set_option maxHeartbeats 1000000 in
theorem isPaging_any (A : Nat → Prop) (k n : Int) (vr : Value) (rq : List Int) (w : World) (hr : RI A w vr rq) :
    Calls Tryz.prog 24 #[.int .i64 k, .int .i64 n, vr] w (Ret fun r w' => r = .bool (pagB k n rq) ∧ Chg No w w') := by
  obtain ⟨ra, rn, rc, rfl⟩ := hr.shape
  cases h : inB k 1 6
  · have H : Hid (pagB k n rq = false) := Lib.hid (by unfold pagB; rw [h]; rfl)
    have HI := Lib.hid h
    clear h
    go_enter Tryz.func24, Tryz.ntmps24
    go_wp2_with (go_at_call 32; refine (isSize_any _ _).mono ?_; rintro e w' ⟨rfl, hww⟩; subst hww; rw [HI.out])
    go_ret
    exact ⟨_, rfl, by rw [H.out]; rfl, Chg.refl _ _⟩
  · have H : Hid (pagB k n rq = (inB n 1 8 && decide (rq.length ≤ 60) && belowB n rq)) := Lib.hid (by unfold pagB; rw [h]; rfl)
    have HI := Lib.hid h
    clear h
    go_enter Tryz.func24, Tryz.ntmps24
    go_wp2_with (go_at_call 32; refine (isSize_any _ _).mono ?_; rintro e w' ⟨rfl, hww⟩; subst hww; rw [HI.out])
    refine (IsRequests_any A _ rq n w hr).mono ?_
    rintro e w1 ⟨_, rfl, rfl, k1⟩
    rw [← H.out]
    go_wp2_with fail
    go_ret
    exact ⟨_, rfl, rfl, k1⟩
set_option maxRecDepth 100000 in
set_option maxHeartbeats 1000000 in
theorem implFewest_any (k n : Int) (vr : Value) (rq : List Int) (w : World) (hr : RI No w vr rq) :
    Calls Tryz.prog 11 #[.int .i64 k, .int .i64 n, vr] w (Ret2 fun v0 v1 w' => v0 = .int .i64 (fewV k n rq) ∧ v1 = .bool (pagB k n rq) ∧ Chg No w w') := by
  obtain ⟨ra, rn, rc, rfl⟩ := hr.shape
  go_enter Tryz.func11, Tryz.ntmps11
  go_wp2_with fail
  refine (isPaging_any No k n _ rq w hr).mono ?_
  rintro e w1 ⟨_, rfl, rfl, k1⟩
  cases h : pagB k n rq
  · have HV : Hid (fewV k n rq = 0) := Lib.hid (by unfold fewV; rw [h]; rfl)
    have HQ := Lib.hid h
    clear h
    go_wp2_with fail
    go_ret2
    exact ⟨_, _, rfl, by rw [HV.out]; rfl, by rw [HQ.out]; rfl, k1⟩
  · have hv : fewV k n rq = fewN k n rq := by unfold fewV; rw [h]; rfl
    obtain ⟨h1, h2, h3, h4⟩ := pagB_facts h
    obtain ⟨f0, f1⟩ := fewN_ok h
    obtain ⟨K, rfl⟩ := Int.eq_ofNat_of_zero_le (show 0 ≤ k by omega)
    obtain ⟨f, hf⟩ := Int.eq_ofNat_of_zero_le f0
    rw [hf, Int.toNat_natCast, Int.toNat_natCast] at f1
    have HQ := Lib.hid h
    have HF := Lib.hid (hv.trans hf)
    have H4 := Lib.hid h4
    clear h4 h hf f0 hv
    go_wp2_with fail
    refine (fewestFaults_any K (by omega) _ rq w1 (hr.keep k1) (fun x hx => (H4.out x hx).1) h3 f f1).mono ?_
    rintro e w2 ⟨_, rfl, rfl, k2⟩
    go_wp2_with fail
    go_ret2
    exact ⟨_, _, rfl, by rw [HF.out]; rfl, by rw [HQ.out]; rfl, k1.keep k2⟩
end Go.Proofs.YtdgcohoneijleaaGreat

/- whether a Cache is valid, both sides -/
namespace Go.Proofs.YtdgcohoneijleaaGreat
open Go.RowKit

theorem len0 (n : Nat) : ((n : Int) == 0) = decide (n = 0) := by
  by_cases h : n = 0
  · simp [h]
  · have : ¬ (n : Int) = 0 := by omega
    simp [h]
theorem marksB_5 {c : Ca} (h : c.pol = 5) : marksB c = (decide (c.marks.length = c.pages.length) && c.marks.all fun m => inB m 1 60) := by unfold marksB; rw [if_pos h]
theorem marksB_6 {c : Ca} (h : c.pol = 6) : marksB c = (decide (c.marks.length = c.pages.length) && c.marks.all fun m => inB m 0 1) := by unfold marksB; rw [if_neg (by omega), if_pos h]
theorem marksB_no {c : Ca} (h5 : c.pol ≠ 5) (h6 : c.pol ≠ 6) : marksB c = decide (c.marks.length = 0) := by unfold marksB; rw [if_neg h5, if_neg h6]

set_option maxHeartbeats 400000 in
theorem isMarked_any (p : Int) (w : World) :
    Calls Tryz.prog 81 #[.int .i64 p] w fun e w' => e = .returned (.bool (p == 5 || p == 6)) ∧ w = w' := by
  cases h5 : p == 5 <;> cases h6 : p == 6
  all_goals
    go_enter Tryz.func81, Tryz.ntmps81
    go_wp2
    go_ret
    exact ⟨rfl, rfl⟩

set_option maxRecDepth 100000 in
set_option maxHeartbeats 400000 in
theorem IndexFunc2_any (A : Nat → Prop) (v : Value) (l : List Int) (w : World) (h : RI A w v l) (f : FuncId) (c0 c1 : Value) (p : Int → Bool)
    (hcf : ∀ x (w : World), (callFunc f #[.int .i64 x, c0, c1]).run Tryz.prog w = .ok (.enter f #[.int .i64 x, c0, c1]) w)
    (hp : ∀ x, x ∈ l → Calls Tryz.prog f #[.int .i64 x, c0, c1] w fun e w' => e = .returned (.bool (p x)) ∧ w = w') :
    Calls Tryz.prog 88 #[v, .func (.func f) #[] #[c0, c1]] w fun e w' => e = .returned (.int .i64 (idxF l p)) ∧ w = w' := by
  obtain ⟨a, cap, rfl, hcap, hmax, hlen, _, hc⟩ := h
  have HP := Lib.hid hp
  clear hp
  go_enter Tryz.func88, Tryz.ntmps88
  go_wp2
  go_loop [4, 8] (fun r i => ∃ k : Nat, k ≤ l.length ∧ i = .int .i64 k ∧ r = .int .i64 0 ∧ (l.take k).any p = false) (fun _ i => l.length - (intOf i).toNat)
  case atStart => exact ⟨0, Nat.zero_le _, rfl, rfl, rfl⟩
  case round =>
    obtain ⟨k, hk, rfl, rfl, hh⟩ := hrel
    have H := Lib.hid hh
    clear hh
    by_cases hlt : k < l.length
    · obtain ⟨b, off, rfl, _, _, hcell⟩ := hc (by intro e; simp [e] at hlt)
      have hck := hcell k hlt
      have hs := Lib.hid (any_snoc l p k hlt)
      have ht := Lib.hid (idxF_hit l p k hlt)
      have hm : l[k] ∈ l := List.getElem_mem hlt
      go_wp2_with fail
      refine (HP.out _ hm).mono ?_
      rintro e w' ⟨rfl, rfl⟩
      go_wp2
      · go_ret
        have h : p l[k] = true := by assumption
        exact ⟨ret_int (ht.out h H.out).symm, rfl⟩
      · have h : p l[k] = false := by assumption
        go_round
        case rel => exact ⟨k + 1, by omega, by go_num, rfl, by rw [hs.out, H.out, h]; rfl⟩
        case measure => simp [intOf]; omega
    · have hkl : k = l.length := by omega
      go_wp2
      go_ret
      subst hkl
      exact ⟨ret_int (by have := H.out; rw [List.take_length] at this; exact (idxF_none l p this).symm), rfl⟩

set_option maxRecDepth 100000 in
set_option maxHeartbeats 400000 in
theorem ContainsFunc2_any (A : Nat → Prop) (v : Value) (l : List Int) (w : World) (h : RI A w v l) (f : FuncId) (c0 c1 : Value) (p : Int → Bool)
    (hcf : ∀ x (w : World), (callFunc f #[.int .i64 x, c0, c1]).run Tryz.prog w = .ok (.enter f #[.int .i64 x, c0, c1]) w)
    (hp : ∀ x, x ∈ l → Calls Tryz.prog f #[.int .i64 x, c0, c1] w fun e w' => e = .returned (.bool (p x)) ∧ w = w') :
    Calls Tryz.prog 68 #[v, .func (.func f) #[] #[c0, c1]] w fun e w' => e = .returned (.bool (l.any p)) ∧ w = w' := by
  have hge := idxF_ge l p
  have H := Lib.hid hge
  have HP := Lib.hid hp
  clear hge hp
  have HC := Lib.hid hcf
  clear hcf
  go_enter Tryz.func68, Tryz.ntmps68
  go_wp2_with fail
  refine (IndexFunc2_any A v l w h f c0 c1 p HC.out HP.out).mono ?_
  rintro e w' ⟨rfl, rfl⟩
  go_wp2_with fail
  go_ret
  exact ⟨ret_bool H.out, rfl⟩

theorem cfMarks (x : Int) (c0 c1 : Value) (w : World) : (callFunc 82 #[.int .i64 x, c0, c1]).run Tryz.prog w = .ok (.enter 82 #[.int .i64 x, c0, c1]) w := by kernel_rfl
theorem cell_at1 {w : World} {x : Value} {t : TypeId} {n : Nat} (hn : w.heap.size = n) : (w.alloc (.cells #[x] t)).cell? ⟨n, 0, none⟩ = some x := by
  subst hn; rw [World.cell?_alloc_new]; rfl
theorem marksAt {w : World} {o : Obj} {x y : Value} {t : TypeId} {R : World → Prop} (h : ∀ W, Chg No w W → W.cell? ⟨w.heap.size + 1, 0, none⟩ = some x → W.cell? ⟨w.heap.size + 1 + 1, 0, none⟩ = some y → R W) :
    R (((w.alloc o).alloc (.cells #[x] t)).alloc (.cells #[y] t)) :=
  h _ ((((Chg.refl No w).alloc _).alloc _).alloc _) ((((Chg.refl No _).alloc _).cellD _ 0 (by simp) (fun e => e)).trans (cell_at1 (by simp))) (cell_at1 (by simp))
theorem not_any (l : List Int) (p : Int → Bool) : (!l.any fun x => !p x) = l.all p := by
  induction l with
  | nil => rfl
  | cons a l ih => simp only [List.any_cons, List.all_cons, Bool.not_or, Bool.not_not, ih]
set_option maxHeartbeats 400000 in
theorem areMarks1_any (x lo hi : Int) (b1 b2 : Nat) (w : World) (h1 : w.cell? ⟨b1, 0, none⟩ = some (.int .i64 lo)) (h2 : w.cell? ⟨b2, 0, none⟩ = some (.int .i64 hi)) :
    Calls Tryz.prog 82 #[.int .i64 x, .pointer (some ⟨b1, 0, none⟩), .pointer (some ⟨b2, 0, none⟩)] w fun e w' => e = .returned (.bool (!inB x lo hi)) ∧ w = w' := by
  go_enter Tryz.func82, Tryz.ntmps82
  go_wp2_with (go_at_call 17; refine (within_any _ _ _ _).mono ?_; rintro e w' ⟨rfl, rfl⟩)
  go_ret
  exact ⟨rfl, rfl⟩

set_option maxRecDepth 100000 in
set_option maxHeartbeats 1000000 in
theorem areMarks_no (A : Nat → Prop) (v : Value) (c : Ca) (w : World) (h : RC A w v c) (h5 : c.pol ≠ 5) (h6 : c.pol ≠ 6) :
    Calls Tryz.prog 57 #[v] w (Ret fun r w' => r = .bool (marksB c) ∧ Chg No w w') := by
  have HM := Lib.hid (marksB_no h5 h6)
  obtain ⟨pv, mv, rfl, hp, hmk⟩ := h
  obtain ⟨pa, pn, pc, rfl⟩ := hp.shape
  obtain ⟨ma, mc, rfl, _⟩ := id hmk
  have e : (c.pol == 5 || c.pol == 6) = false := by simp [h5, h6]
  have E := Lib.hid e
  clear h5 h6 e
  have k0 := (Chg.refl No w).alloc (.cells #[.int .i64 c.pol, .int .i64 c.size, .slice pa pn pc, .slice ma c.marks.length mc, .int .i64 c.hand] 42)
  go_enter Tryz.func57, Tryz.ntmps57
  go_wp2_with fail
  refine (isMarked_any _ _).mono ?_
  rintro e w1 ⟨rfl, rfl⟩
  rw [E.out]
  go_wp2_with fail
  go_ret
  refine ⟨_, rfl, ?_, k0⟩
  rw [HM.out, ← len0]
  rfl

set_option maxRecDepth 100000 in
set_option maxHeartbeats 1000000 in
theorem areMarks_56 (A : Nat → Prop) (v : Value) (c : Ca) (w : World) (h : RC A w v c) (f : Int → Bool) (hf : marksB c = (decide (c.marks.length = c.pages.length) && c.marks.all f)) (hpf : (c.pol = 5 ∧ f = fun m => inB m 1 60) ∨ (c.pol = 6 ∧ f = fun m => inB m 0 1)) :
    Calls Tryz.prog 57 #[v] w (Ret fun r w' => r = .bool (marksB c) ∧ Chg No w w') := by
  obtain ⟨p, k, ps, m, hd⟩ := c
  obtain ⟨pv, mv, rfl, hp, hmk⟩ := h
  simp only at hp hmk hf hpf ⊢
  generalize marksB ⟨p, k, ps, m, hd⟩ = B at hf ⊢
  obtain ⟨pa, pc, rfl, _⟩ := id hp
  obtain ⟨ma, mc, rfl, _⟩ := id hmk
  have E : Hid ((p == 5 || p == 6) = true) := Lib.hid (by rcases hpf with ⟨h, _⟩ | ⟨h, _⟩ <;> simp [h])
  have HF := Lib.hid hf
  clear hf hp
  by_cases hl : m.length = ps.length
  · have hB : Hid (B = m.all f) := Lib.hid (by rw [HF.out]; simp [hl])
    have hle : ((m.length : Int) == (ps.length : Int)) = true := by simp [hl]
    clear HF hl
    rcases hpf with ⟨rfl, rfl⟩ | ⟨rfl, rfl⟩
    · skip
      rw [← not_any] at hB
      go_enter Tryz.func57, Tryz.ntmps57
      go_wp2_with fail
      refine (isMarked_any _ _).mono ?_
      rintro e w1 ⟨rfl, rfl⟩
      rw [E.out]
      go_wp2_with fail
      refine marksAt (R := fun W => Calls _ _ _ W _) (fun W kW hlo hhi => ?_)
      refine (ContainsFunc2_any A _ m W (hmk.keep kW) _ _ _ (fun x => !inB x 1 60) (fun x w => cfMarks x _ _ w) (fun x _ => areMarks1_any x 1 60 _ _ W hlo hhi)).mono ?_
      rintro e w1 ⟨rfl, rfl⟩
      go_wp2_with fail
      go_ret
      exact ⟨_, rfl, by rw [hB.out]; rfl, kW⟩
    · skip
      rw [← not_any] at hB
      go_enter Tryz.func57, Tryz.ntmps57
      go_wp2_with fail
      refine (isMarked_any _ _).mono ?_
      rintro e w1 ⟨rfl, rfl⟩
      rw [E.out]
      go_wp2_with fail
      refine marksAt (R := fun W => Calls _ _ _ W _) (fun W kW hlo hhi => ?_)
      refine (ContainsFunc2_any A _ m W (hmk.keep kW) _ _ _ (fun x => !inB x 0 1) (fun x w => cfMarks x _ _ w) (fun x _ => areMarks1_any x 0 1 _ _ W hlo hhi)).mono ?_
      rintro e w1 ⟨rfl, rfl⟩
      go_wp2_with fail
      go_ret
      exact ⟨_, rfl, by rw [hB.out]; rfl, kW⟩
  · have hle : ((m.length : Int) == (ps.length : Int)) = false := by rw [beq_eq_false_iff_ne]; omega
    have hB : Hid (B = false) := Lib.hid (by rw [HF.out]; simp [hl])
    clear HF hl
    rcases hpf with ⟨rfl, _⟩ | ⟨rfl, _⟩
    all_goals
      go_enter Tryz.func57, Tryz.ntmps57
      go_wp2_with fail
      refine (isMarked_any _ _).mono ?_
      rintro e w1 ⟨rfl, rfl⟩
      rw [E.out]
      go_wp2_with fail
      go_ret
      exact ⟨_, rfl, by rw [hB.out]; rfl, (((Chg.refl No w).alloc _).alloc _).alloc _⟩
theorem areMarks_any (A : Nat → Prop) (v : Value) (c : Ca) (w : World) (h : RC A w v c) :
    Calls Tryz.prog 57 #[v] w (Ret fun r w' => r = .bool (marksB c) ∧ Chg No w w') := by
  by_cases h5 : c.pol = 5
  · exact areMarks_56 A v c w h _ (marksB_5 h5) (.inl ⟨h5, rfl⟩)
  · by_cases h6 : c.pol = 6
    · exact areMarks_56 A v c w h _ (marksB_6 h6) (.inr ⟨h6, rfl⟩)
    · exact areMarks_no A v c w h h5 h6
end Go.Proofs.YtdgcohoneijleaaGreat
