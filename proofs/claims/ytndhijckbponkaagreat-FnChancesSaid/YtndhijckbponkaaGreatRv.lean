import Derived.Test.YtndhijckbponkaaGreatPkX13
import Derived.Test.YtndhijckbponkaaGreatPkX10
import Derived.Test.YtndhijckbponkaaGreatPkX5
/- the least cost of a schedule: the reference's walk -/
namespace Go.Proofs.YtndhijckbponkaaGreat
open Go.RowKit

theorem workW_snoc (p : Pr) (r : Int) : ∀ (l : List Int) (f : Nat → Int), workW p f (l ++ [r]) = nextW p (workW p f l) r.toNat
  | [], _ => rfl
  | x :: l, f => by
    rw [List.cons_append, workW, workW_snoc p r l]
    rfl
def workF (p : Pr) (S : Nat) (q : List Int) (i : Nat) : Nat → Int := workW p (fun t => mvA p S t) (q.take i)
theorem workF_succ {p : Pr} {S : Nat} {q : List Int} {i : Nat} (hi : i < q.length) : workF p S q (i + 1) = nextW p (workF p S q i) (q.getD i 0).toNat := by
  unfold workF
  rw [List.take_add_one, List.getElem?_eq_getElem hi, List.getD_eq_getElem?_getD, List.getElem?_eq_getElem hi]
  exact workW_snoc p _ _ _
theorem workF_in {p : Pr} (hp : PrP p) {S : Nat} (hS : S < p.mv.length) {q : List Int} (hq : ∀ r ∈ q, 0 ≤ r ∧ r < (p.sv.length : Int)) : ∀ i, i ≤ q.length → ∀ t, t < p.mv.length → 0 ≤ workF p S q i t ∧ workF p S q i t ≤ 99 + 119 * (i : Int)
  | 0, _, t, ht => by
    show 0 ≤ mvA p S t ∧ mvA p S t ≤ _
    have := hp.mv_in hS ht
    omega
  | i + 1, h, t, ht => by
    rw [workF_succ (by omega)]
    have hm : q.getD i 0 ∈ q := by rw [List.getD_eq_getElem?_getD, List.getElem?_eq_getElem (by omega : i < q.length)]; exact List.getElem_mem _
    have hr := hq _ hm
    have h1 := nextW_in hp (show (0 : Int) ≤ 99 + 119 * (i : Int) by omega) (workF_in hp hS hq i (by omega)) (r := (q.getD i 0).toNat) (by omega) t ht
    push_cast
    omega
theorem optW_F (p : Pr) (S : Nat) (q : List Int) : optW p S q = (bl (fun _ => true) (workF p S q q.length) p.mv.length).2 := by
  unfold optW leastW workF
  rw [List.take_length]
theorem bl_min {g : Nat → Int} {k : Nat} (h : ∀ i, i < k + 1 → 0 ≤ g i) (hk : 0 < k) : (bl (fun _ => true) g (k + 1)).2 = min (bl (fun _ => true) g k).2 (g k) := by
  have h1 : 0 ≤ (bl (fun _ => true) g k).2 := by
    rcases bl_spec (ok := fun _ => true) (f := g) k (fun s hs _ => h s (by omega)) with ⟨_, h2⟩ | ⟨h2, _⟩
    · have := h2 0 hk; cases this
    · exact h2
  rw [bl_step, Bool.true_and, decide_eq_false (by omega : ¬ (bl (fun _ => true) g k).2 < 0), Bool.false_or]
  by_cases e : g k < (bl (fun _ => true) g k).2
  · rw [decide_eq_true e, if_pos rfl]; omega
  · rw [decide_eq_false e, if_neg Bool.false_ne_true]; omega
theorem bl_one {g : Nat → Int} : (bl (fun _ => true) g 1).2 = g 0 := by
  rw [bl_step]; simp [bl]
set_option maxHeartbeats 1000000 in
theorem l8LeastX_any (A : Nat → Prop) (v : Value) (l : List Int) (w : World) (h : RI A w v l) (h1 : 1 ≤ l.length) (hnn : ∀ i, i < l.length → 0 ≤ l.getD i 0) :
    Calls Tryz.prog 81 #[v] w fun e w' => e = .returned (.int .i64 (bl (fun _ => true) (fun i => l.getD i 0) l.length).2) ∧ w = w' := by
  obtain ⟨a, cap, rfl, hcap, hmax, hlen, _, hc⟩ := h
  obtain ⟨b, off, rfl, _, _, hcell⟩ := hc (by intro e; simp [e] at h1)
  have hc0 : w.cell? ⟨b, off, none⟩ = some (.int .i64 (l.getD 0 0)) := by have := hcell 0 (by omega); rwa [Nat.add_zero] at this
  have hl0 : (0 : Int) < (l.length : Int) := by omega
  have HNN := Lib.hid hnn
  obtain ⟨g, hg⟩ : ∃ g : Nat → Int, (fun i => l.getD i 0) = g := ⟨_, rfl⟩
  have hg' : ∀ i, l.getD i 0 = g i := fun i => by rw [← hg]
  have HG := Lib.hid hg'
  rw [hg]
  simp only [hg'] at hcell
  rw [hg' 0] at hc0
  have HB1 : Hid ((bl (fun _ => true) g 1).2 = g 0) := Lib.hid bl_one
  clear hc hnn hg hg'
  go_enter Tryz.func81, Tryz.ntmps81
  go_wp2_with fail
  go_loop [3, 4] (fun y z => ∃ (k : Nat), 1 ≤ k ∧ k ≤ l.length ∧ z = .int .i64 (k : Int) ∧ y = .int .i64 (bl (fun _ => true) g k).2) (fun _ z => l.length - (intOf z).toNat)
  case atStart => exact ⟨1, Nat.le_refl _, h1, rfl, by rw [HB1.out]⟩
  case round =>
    obtain ⟨k, hk0', hk, rfl, rfl⟩ := hrel
    have hk0 : (0 : Int) ≤ (k : Int) := Int.natCast_nonneg _
    clear hc0
    by_cases hlt : k < l.length
    · have hck := hcell k hlt
      have hw1 : IntKind.i64.wrap ((k : Int) + 1) = (k : Int) + 1 := IntWalk.i64_in _ (by omega)
      have hk1 : (k : Int) < (l.length : Int) := by omega
      have HM := Lib.hid (bl_min (g := g) (k := k) (fun i hi => by have := HNN.out i (by omega); rwa [HG.out] at this) hk0')
      obtain ⟨x, hx⟩ : ∃ x, g k = x := ⟨_, rfl⟩
      obtain ⟨c, hcc⟩ : ∃ c, (bl (fun _ => true) g k).2 = c := ⟨_, rfl⟩
      rw [hx] at hck HM
      rw [hcc] at HM ⊢
      clear hcell hx hcc
      go_wp2_with (go_at_call 121; refine (l1Least_any _ _ _).mono ?_; rintro e w1 ⟨rfl, rfl⟩)
      go_round
      case rel => exact ⟨k + 1, by omega, by omega, by go_num, by rw [HM.out]⟩
      case measure => simp [intOf]; omega
    · have hke : k = l.length := by omega
      have hk1 : ¬ (k : Int) < (l.length : Int) := by omega
      have HKE := Lib.hid hke
      clear hcell hke
      go_wp2_with fail
      go_ret
      exact ⟨by rw [HKE.out]; rfl, rfl⟩
set_option maxRecDepth 100000 in
set_option maxHeartbeats 2000000 in
theorem l8Work_any (A B : Nat → Prop) (v rv : Value) (p : Pr) (S : Nat) (q : List Int) (w : World) (hp : PrP p) (h : RPr A w v p) (hq : RI B w rv q) (hS : S < p.mv.length) (hqr : ∀ r ∈ q, 0 ≤ r ∧ r < (p.sv.length : Int)) (hql : q.length ≤ 60) :
    Calls Tryz.prog 112 #[v, .int .i64 (S : Int), rv] w (Ret fun r w' => ∃ l, RI No w' r l ∧ WkP p (workF p S q q.length) l ∧ Chg No w w') := by
  have hv := h
  obtain ⟨mv, sv, rfl, hm, hs⟩ := h
  obtain ⟨ma, mc, rfl⟩ := hm.shape
  obtain ⟨sa, sc, rfl⟩ := hs.shape
  obtain ⟨qa, qc, rfl, _⟩ := id hq
  have HP := Lib.hid (And.intro hp hqr)
  have hpl : p.mv.length ≤ 4 := hp.1.2
  obtain ⟨mb, mf, ta, tc, rfl, hmb, hcm, htr⟩ := hm.row hS
  have hml : (p.mv.getD S []).length = p.mv.length := hp.2.1.2.1 S hS
  have hS0 : (0 : Int) ≤ (S : Int) := Int.natCast_nonneg _
  have hS1 : (S : Int) < (p.mv.length : Int) := by omega
  have hW0 : WkP p (workF p S q 0) (p.mv.getD S []) := ⟨hml, fun t _ => rfl⟩
  have b0 := BoxN.new w #[.slice (some ⟨mb, mf, none⟩) p.mv.length mc, .slice sa p.sv.length sc] 26
  have k0 := (Chg.refl No w).alloc (.cells #[.slice (some ⟨mb, mf, none⟩) p.mv.length mc, .slice sa p.sv.length sc] 26)
  have z0 : (w.alloc (.cells #[.slice (some ⟨mb, mf, none⟩) p.mv.length mc, .slice sa p.sv.length sc] 26)).heap.size = w.heap.size + 1 := World.size_alloc _ _
  obtain ⟨R0, hR0⟩ : ∃ R, w.heap.size = R := ⟨_, rfl⟩
  rw [hR0] at b0 z0
  obtain ⟨W0, hW0'⟩ : ∃ W, w.alloc (.cells #[.slice (some ⟨mb, mf, none⟩) p.mv.length mc, .slice sa p.sv.length sc] 26) = W := ⟨_, rfl⟩
  rw [hW0'] at b0 k0 z0
  have k1 := (Chg.refl No W0).alloc (.cells #[] 3)
  have oz := OI.zero (base := R0 + 1) (w := W0) (Nat.le_of_eq z0.symm)
  have z1 : (W0.alloc (.cells #[] 3)).heap.size = R0 + 2 := by rw [World.size_alloc, z0]
  rw [z0] at oz
  have kk := k0.trans k1
  have bb := b0.keep k1
  have HRS := Lib.hid hR0
  have htr1 := ((htr.weak (fun _ hk _ => hk.elim)).keep kk : RI No _ _ _)
  have hcm1 := (kk.cellD mb (mf + S) hmb (fun e => e)).trans hcm
  have g0 := bb.c 0 _ rfl
  obtain ⟨row, hrow⟩ : ∃ row, p.mv.getD S [] = row := ⟨_, rfl⟩
  rw [hrow] at hcm1 htr1 hW0 hml
  clear hp hqr b0 k0 k1 hcm htr hrow hm hs
  have hle : ([] : List Int).length + row.length ≤ 17592186044416 := by simp; omega
  rw [hml] at htr1 hcm1
  have hzb : R0 + 1 ≤ (W0.alloc (.cells #[] 3)).heap.size := by omega
  clear hml
  go_enter Tryz.func112, Tryz.ntmps112
  go_wp2_with (at_builtin; refine wapp rfl (.tmp 9) (.tmp 14) rfl oz htr1 rfl rfl hle hzb ?_)
  intro v1 w1 h1 k2 f1
  have kk1 := kk.step k2 (fun q hq hlt => by have := (oz.lt q hq).1; have := HRS.out; omega)
  have bb1 := bb.step k2 (fun e => by have := (oz.lt _ e).1; omega)
  have hz1 := Nat.le_trans hzb k2.size
  have h2 := h1.readNo
  obtain ⟨v1a, v1c, rfl, _⟩ := id h2
  clear kk bb oz k2 f1 hcm1 htr1 g0 hW0' z0 hzb z1 h1 hle hS0 hS1 hR0
  go_wp2_with fail
  go_loopw [7, 8] (fun o z wr => ∃ (i : Nat) (l : List Int), i ≤ q.length ∧ z = .int .i64 (i : Int) ∧ RI No wr o l ∧ Hid (WkP p (workF p S q i) l) ∧ Chg No w wr ∧ BoxN wr R0 [.slice (some ⟨mb, mf, none⟩) p.mv.length mc, .slice sa p.sv.length sc]) (fun _ z _ => q.length - (intOf z).toNat)
  case atStart => exact ⟨0, row, Nat.zero_le _, rfl, h2, Lib.hid hW0, kk1, bb1⟩
  case round =>
    clear h2 hW0 kk1 bb1
    obtain ⟨i, l, hi, rfl, ho, HL, kr, bb⟩ := hrel
    have hi0 : (0 : Int) ≤ (i : Int) := Int.natCast_nonneg _
    obtain ⟨oa, oc, rfl, _⟩ := id ho
    rw [HL.out.1] at ho ⊢
    by_cases hlt : i < q.length
    · have hi1 : (i : Int) < (q.length : Int) := by omega
      have hwi : IntKind.i64.wrap ((i : Int) + 1) = (i : Int) + 1 := IntWalk.i64_in _ (by omega)
      obtain ⟨qb, qf, rfl, hqb, hcq⟩ := hq.cellN hlt
      have hqm : q.getD i 0 ∈ q := by rw [List.getD_eq_getElem?_getD, List.getElem?_eq_getElem hlt]; exact List.getElem_mem _
      obtain ⟨hr0, hr1⟩ := HP.out.2 _ hqm
      obtain ⟨r, hr⟩ : ∃ r : Nat, q.getD i 0 = (r : Int) := ⟨(q.getD i 0).toNat, by omega⟩
      rw [hr] at hr0 hr1 hcq
      have hrl : r < p.sv.length := by omega
      have HN := Lib.hid (show workF p S q (i + 1) = nextW p (workF p S q i) r by rw [workF_succ hlt, hr, Int.toNat_natCast])
      have HIN := Lib.hid (workF_in HP.out.1 hS HP.out.2 i (by omega))
      have HQ : Hid (∀ W, Chg No w W → W.cell? ⟨qb, qf + i, none⟩ = some (.int .i64 (r : Int))) := Lib.hid (fun W k => (k.cellD qb (qf + i) hqb (fun e => e)).trans hcq)
      clear hqm hr hcq hr0 hr1
      go_wp2_with fail
      refine wp_region_K (S := fun W => (W.cell? ⟨R0, 0, none⟩ = some (.slice (some ⟨mb, mf, none⟩) p.mv.length mc) ∧ W.cell? ⟨R0, 1, none⟩ = some (.slice sa p.sv.length sc)) ∧ W.cell? ⟨qb, qf + i, none⟩ = some (.int .i64 (r : Int))) (k := 7) (by kernel_rfl) ?_
      replace kr := kr.keep (drewN0 _)
      replace bb := bb.keep (drewN0 _)
      replace ho := ho.keep (drewN0 _)
      generalize wr.drew = W2 at kr bb ho ⊢
      have hS : (W2.cell? ⟨R0, 0, none⟩ = some (.slice (some ⟨mb, mf, none⟩) p.mv.length mc) ∧ W2.cell? ⟨R0, 1, none⟩ = some (.slice sa p.sv.length sc)) ∧ W2.cell? ⟨qb, qf + i, none⟩ = some (.int .i64 (r : Int)) := ⟨⟨bb.c 0 _ rfl, bb.c 1 _ rfl⟩, HQ.out W2 kr⟩
      refine wpAnyK_takeT 0 (.agg #[.slice (some ⟨mb, mf, none⟩) p.mv.length mc, .slice sa p.sv.length sc]) rfl (by kernel_rfl) (fun _ _ _ h => h) hS rfl (by intro w hSw; go_simp) ?_
      simp only [List.getElem_toArray, List.getElem_cons_zero, Act.put, List.setIfInBounds_toArray, List.set_cons_zero, List.set_cons_succ]
      refine wpAnyK_take0 1 (.slice oa p.mv.length oc) rfl (by kernel_rfl) (fun _ _ _ h => h) hS rfl (by intro w; go_simp) ?_
      simp only [List.getElem_toArray, List.getElem_cons_succ, List.getElem_cons_zero, Act.put, List.setIfInBounds_toArray, List.set_cons_zero, List.set_cons_succ]
      refine wpAnyK_take0 2 (.slice (some ⟨qb, qf, none⟩) q.length qc) rfl (by kernel_rfl) (fun _ _ _ h => h) hS rfl (by intro w; go_simp) ?_
      simp only [List.getElem_toArray, List.getElem_cons_succ, List.getElem_cons_zero, Act.put, List.setIfInBounds_toArray, List.set_cons_zero, List.set_cons_succ]
      refine wpAnyK_take0 3 (.int .i64 (i : Int)) rfl (by kernel_rfl) (fun _ _ _ h => h) hS rfl (by intro w; go_simp) ?_
      simp only [List.getElem_toArray, List.getElem_cons_succ, List.getElem_cons_zero, Act.put, List.setIfInBounds_toArray, List.set_cons_zero, List.set_cons_succ]
      refine wpAnyK_take0 4 (.pointer (some ⟨qb, qf + i, none⟩)) rfl (by kernel_rfl) (fun _ _ _ h => h) hS rfl (by intro w; go_simp) ?_
      simp only [List.getElem_toArray, List.getElem_cons_succ, List.getElem_cons_zero, Act.put, List.setIfInBounds_toArray, List.set_cons_zero, List.set_cons_succ]
      refine wpAnyK_take 5 (.int .i64 (r : Int)) rfl (by kernel_rfl) (fun _ _ _ h => h) hS rfl (by intro w hSw; go_simp) ?_
      simp only [List.getElem_toArray, List.getElem_cons_succ, List.getElem_cons_zero, Act.put, List.setIfInBounds_toArray, List.set_cons_zero, List.set_cons_succ]
      clear hS
      refine wpAnyK_1 6 (by kernel_rfl) (wpOpK' rfl rfl ?_)
      intro K hK
      refine ocall (f := 153) (args := #[.agg #[.slice (some ⟨mb, mf, none⟩) p.mv.length mc, .slice sa p.sv.length sc], .slice oa p.mv.length oc, .int .i64 (r : Int)]) (by go_simp) (l8Next_any A No _ _ p (workF p S q i) (99 + 119 * (i : Int)) l r W2 HP.out.1 (hv.keep kr) ho HL.out HIN.out (by omega) (by omega) hrl) (fun v3 w3 h3 => ?_)
      obtain ⟨l3, h3, HL3, k3⟩ := h3
      have kr3 := kr.keep k3
      have bb3 := bb.keep k3
      have h4 := h3.readNo
      refine hK.out _ _ ⟨⟨bb3.c 0 _ rfl, bb3.c 1 _ rfl⟩, HQ.out w3 kr3⟩ ?_
      clear hK K h3 bb kr ho k3
      obtain ⟨v3a, v3c, rfl, _⟩ := id h4
      simp only [List.getElem_toArray, List.getElem_cons_succ, List.getElem_cons_zero, Act.put, List.setIfInBounds_toArray, List.set_cons_zero, List.set_cons_succ]
      refine wpAnyK_tail 7 rfl (by kernel_rfl) ?_
      simp only [List.drop_succ_cons, List.drop_zero]
      go_wp2_with fail
      go_round
      case rel => exact ⟨i + 1, l3, hlt, by go_num, h4, Lib.hid (by rw [HN.out]; exact HL3), kr3, bb3⟩
      case measure => simp [intOf]; omega
    · have hie : i = q.length := by omega
      subst hie
      have HF := Lib.hid (And.intro ho (And.intro HL.out kr))
      clear ho kr
      go_wp2_with fail
      go_ret
      exact ⟨_, rfl, l, HF.out.1, HF.out.2.1, HF.out.2.2⟩
end Go.Proofs.YtndhijckbponkaaGreat
