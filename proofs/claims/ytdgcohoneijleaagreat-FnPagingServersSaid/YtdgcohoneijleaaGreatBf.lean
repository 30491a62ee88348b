import Derived.Test.YtdgcohoneijleaaGreatPkX9
import Derived.Test.YtdgcohoneijleaaGreatGo
/- the farthest next use: the program's plan, played -/
namespace Go.Proofs.YtdgcohoneijleaaGreat
open Go.RowKit

/-- one place of a plan -/
def StepP (k : Nat) (l : List Int) (r : Int) (c c' : List Int) (o : Int) : Prop :=
  if r ∈ c then c' = c ∧ o = -1 else if c.length = k then IsFar l c o ∧ c' = stay (· == o) c ++ [r] else c' = c ++ [r] ∧ o = -1
/-- the first j places of the plan of the farthest next use; cs: the caches ahead of each place -/
structure Pln (k : Nat) (rq : List Int) (j : Nat) (cs : Nat → List Int) (pl : List Int) : Prop where
  len : pl.length = j
  zero : cs 0 = []
  step : ∀ i, i < j → StepP k (rq.drop (i + 1)) (rq.getD i 0) (cs i) (cs (i + 1)) (pl.getD i 0)
theorem Pln.start (k : Nat) (rq : List Int) : Pln k rq 0 (fun _ => []) [] := ⟨rfl, rfl, fun i hi => by omega⟩
theorem Pln.next {k : Nat} {rq : List Int} {j : Nat} {cs : Nat → List Int} {pl : List Int} (h : Pln k rq j cs pl) {r : Int} {c' : List Int} {o : Int} (hr : rq.getD j 0 = r) (hs : StepP k (rq.drop (j + 1)) r (cs j) c' o) :
    Pln k rq (j + 1) (fun i => if i ≤ j then cs i else c') (pl ++ [o]) := by
  refine ⟨by simp [h.len], by simp [h.zero], fun i hi => ?_⟩
  by_cases e : i = j
  · subst e
    rw [if_pos (Nat.le_refl _), if_neg (by omega), hr]
    have : (pl ++ [o]).getD i 0 = o := by rw [← h.len]; simp
    rw [this]; exact hs
  · have : (pl ++ [o]).getD i 0 = pl.getD i 0 := by
      rw [List.getD_eq_getElem?_getD, List.getElem?_append_left (by rw [h.len]; omega), ← List.getD_eq_getElem?_getD]
    rw [if_pos (by omega), if_pos (by omega), this]
    exact h.step i (by omega)
theorem stay_filter (p : Int) (c : List Int) : stay (· == p) c = c.filter (· != p) := rfl
theorem StepP.to5 {k : Nat} {l : List Int} {r : Int} {c c' : List Int} {o : Int} (h : StepP k l r c c' o) : Step5 k l r c c' := by
  unfold StepP at h
  unfold Step5
  split
  · rename_i hr; rw [if_pos hr] at h; exact h.1
  · rename_i hr
    rw [if_neg hr] at h
    split
    · rename_i hk; rw [if_pos hk] at h; exact ⟨o, h.1, h.2⟩
    · rename_i hk; rw [if_neg hk] at h; exact h.1
theorem Pln.ok {k : Nat} {rq : List Int} {j : Nat} {cs : Nat → List Int} {pl : List Int} (h : Pln k rq j cs pl) : ∀ i, i ≤ j → (cs i).Nodup ∧ (cs i).length ≤ k := by
  intro i
  induction i with
  | zero => intro _; rw [h.zero]; exact ⟨by simp, by simp⟩
  | succ i ih =>
    intro hi
    obtain ⟨h1, h2⟩ := ih (by omega)
    obtain ⟨g1, g2, _, _⟩ := (h.step i (by omega)).to5.ok h1 h2
    exact ⟨g1, g2⟩
/-- the faults among the first i places -/
def missC (rq : List Int) (cs : Nat → List Int) : Nat → Nat
  | 0 => 0
  | i + 1 => if hasB (cs i) (rq.getD i 0) then missC rq cs i else missC rq cs i + 1
theorem missC_le (rq : List Int) (cs : Nat → List Int) (i : Nat) : missC rq cs i ≤ i := by
  induction i with
  | zero => exact Nat.le_refl _
  | succ i ih => unfold missC; split <;> omega
theorem Pln.far {k : Nat} {rq : List Int} {cs : Nat → List Int} {pl : List Int} (h : Pln k rq rq.length cs pl) : Far k rq [] (missC rq cs rq.length) := by
  have key : ∀ d i, i + d = rq.length → ∃ f, Far k (rq.drop i) (cs i) f ∧ missC rq cs rq.length = missC rq cs i + f := by
    intro d
    induction d with
    | zero =>
      intro i hi
      have : i = rq.length := by omega
      subst this
      exact ⟨0, by rw [List.drop_length]; rfl, rfl⟩
    | succ d ih =>
      intro i hi
      obtain ⟨f, h1, h2⟩ := ih (i + 1) (by omega)
      have hd : rq.drop i = rq.getD i 0 :: rq.drop (i + 1) := by
        rw [List.drop_eq_getElem_cons (by omega), List.getD_eq_getElem?_getD, List.getElem?_eq_getElem (by omega)]; rfl
      rw [hd]
      refine ⟨_, ⟨cs (i + 1), f, (h.step i (by omega)).to5, h1, rfl⟩, ?_⟩
      rw [h2]
      show missC rq cs (i + 1) + f = _
      rw [missC]
      by_cases hm : rq.getD i 0 ∈ cs i
      · rw [if_pos (by simpa [hasB] using hm), if_pos hm]
      · rw [if_neg (by simpa [hasB] using hm), if_neg hm]; omega
  obtain ⟨f, h1, h2⟩ := key rq.length 0 (by omega)
  rw [h.zero, List.drop_zero] at h1
  rw [h2]
  have : missC rq cs 0 = 0 := rfl
  rw [this, Nat.zero_add]
  exact h1

theorem cfPlan (x : Int) (c0 : Value) (w : World) : (callFunc 90 #[.int .i64 x, c0]).run Tryz.prog w = .ok (.enter 90 #[.int .i64 x, c0]) w := by kernel_rfl
theorem cfFar (x : Int) (v c0 : Value) (w : World) : (callFunc 72 #[.int .i64 x, v, c0]).run Tryz.prog w = .ok (.enter 72 #[.int .i64 x, v, c0]) w := by kernel_rfl
set_option maxHeartbeats 400000 in
theorem planBy1_any (x o : Int) (b : Nat) (w : World) (hc : w.cell? ⟨b, 0, none⟩ = some (.int .i64 o)) :
    Calls Tryz.prog 90 #[.int .i64 x, .pointer (some ⟨b, 0, none⟩)] w fun e w' => e = .returned (.bool (x == o)) ∧ w = w' := by
  go_enter Tryz.func90, Tryz.ntmps90
  go_wp2_with fail
  go_ret
  exact ⟨rfl, rfl⟩
set_option maxHeartbeats 400000 in
theorem farthest1_any (A B : Nat → Prop) (i b : Nat) (vr vc : Value) (rq c : List Int) (w : World) (hcell : w.cell? ⟨b, 0, none⟩ = some vr) (hr : RI A w vr rq) (hc : RI B w vc c) (hi : i < rq.length) (hne : 0 < c.length) :
    Calls Tryz.prog 72 #[.int .i64 (i : Int), vc, .pointer (some ⟨b, 0, none⟩)] w fun e w' => ∃ p, e = .returned (.int .i64 p) ∧ IsFar (rq.drop (i + 1)) c p ∧ w = w' := by
  obtain ⟨ra, rn, rc, rfl⟩ := hr.shape
  obtain ⟨ca, cn, cc, rfl⟩ := hc.shape
  go_enter Tryz.func72, Tryz.ntmps72
  go_wp2_with fail
  refine (farthest_any A B i _ _ rq c w hr hc hi hne).mono ?_
  rintro e w' ⟨p, rfl, hp, rfl⟩
  go_wp2_with fail
  go_ret
  exact ⟨_, rfl, hp, rfl⟩
set_option maxRecDepth 100000 in
set_option maxHeartbeats 2000000 in
theorem planBy_any (K : Nat) (hK : 1 ≤ K ∧ K ≤ 6) (vr : Value) (rq : List Int) (w : World) (hr : RI No w vr rq) (b : Nat) (hb : w.cell? ⟨b, 0, none⟩ = some vr) :
    Calls Tryz.prog 71 #[.int .i64 (K : Int), vr, .func (.func 72) #[] #[.pointer (some ⟨b, 0, none⟩)]] w
      (Ret fun r w' => ∃ cs pl, OI w.heap.size w' r pl ∧ Pln K rq rq.length cs pl ∧ Chg No w w') := by
  have hlr := hr.len
  have hbl := World.block_lt_of_cell? w _ hb
  obtain ⟨ra, rcap, rfl, _, _, _, _, hcr⟩ := id hr
  have HCR := Lib.hid hcr
  clear hcr
  have hcf : ∀ x v (w : World), (callFunc 72 #[.int .i64 x, v, .pointer (some ⟨b, 0, none⟩)]).run Tryz.prog w = .ok (.enter 72 #[.int .i64 x, v, .pointer (some ⟨b, 0, none⟩)]) w := fun x v w => cfFar x v _ w
  have HCF := Lib.hid hcf
  clear hcf
  have k1 := ((Chg.refl No w).alloc (.cells #[] 3)).alloc (.cells #[] 3)
  have o1 : OI w.heap.size ((w.alloc (.cells #[] 3)).alloc (.cells #[] 3)) (.slice (some ⟨w.heap.size, 0, none⟩) 0 0) [] := (OI.zero (Nat.le_refl _)).alloc _
  have o2 : OI w.heap.size ((w.alloc (.cells #[] 3)).alloc (.cells #[] 3)) (.slice (some ⟨w.heap.size + 1, 0, none⟩) 0 0) [] := OI.zeroAt (by simp) (by omega)
  go_enter Tryz.func71, Tryz.ntmps71
  go_wp2_with fail
  go_loopw [7, 8, 16] (fun vc vo z wr => ∃ (j : Nat) (cs : Nat → List Int) (c pl : List Int), j ≤ rq.length ∧ z = .int .i64 (j : Int) ∧ OI w.heap.size wr vc c ∧ OI w.heap.size wr vo pl ∧ Hid (∀ q, own vc q → ¬ own vo q) ∧ Hid (Pln K rq j cs pl) ∧ Hid (cs j = c) ∧ c.length ≤ K ∧ pl.length = j ∧ Chg No w wr) (fun _ _ z _ => rq.length - (intOf z).toNat)
  case atStart => exact ⟨0, _, [], [], Nat.zero_le _, rfl, o1, o2, Lib.hid (fun q h1 h2 => by simp [own, Value.ownBlock] at h1 h2; omega), Lib.hid (Pln.start K rq), Lib.hid rfl, by simp, rfl, k1⟩
  case round =>
    clear o1 o2 k1
    obtain ⟨j, cs, c, pl, hj, rfl, oc, op, HD, HP, HC, hcl, hpl, hch⟩ := hrel
    by_cases hlt : j < rq.length
    · obtain ⟨rb, off, rfl, _, hrb, hcell⟩ := HCR.out (by intro e; simp [e] at hlt)
      have hcl2 := (hch.cellD rb (off + j) hrb (fun e => e)).trans (hcell j hlt)
      obtain ⟨x, hx⟩ : ∃ x, rq.getD j 0 = x := ⟨_, rfl⟩
      rw [hx] at hcl2
      have HX := Lib.hid hx
      have hj0 : (0 : Int) ≤ (j : Int) := Int.natCast_nonneg _
      have hj1 : (j : Int) < (rq.length : Int) := by omega
      have hw1 : IntKind.i64.wrap ((j : Int) + 1) = (j : Int) + 1 := IntWalk.i64_in _ (by omega)
      obtain ⟨ca, cap, rfl, _⟩ := id oc.view
      obtain ⟨oa, ocap, rfl, _⟩ := id op.view
      clear hcell hx
      have bl : (wr.alloc (.cells #[.int .i64 (-1)] 3)).cell? ⟨wr.heap.size, 0, none⟩ = some (.int .i64 (-1)) := by rw [World.cell?_alloc_new]; rfl
      have bf : (wr.alloc (.cells #[.int .i64 (-1)] 3)).frozen? ⟨wr.heap.size, 0, none⟩ = false := World.frozen?_alloc_new _ _ _ _
      have kw := (Chg.refl No wr).alloc (.cells #[.int .i64 (-1)] 3)
      have hws : wr.heap.size < (wr.alloc (.cells #[.int .i64 (-1)] 3)).heap.size := by simp
      have hsz := hch.size
      have HLO : Hid (∀ q, own (.slice ca c.length cap) q → q < wr.heap.size) := Lib.hid (fun q hq => (oc.lt q hq).2)
      have HLP : Hid (∀ q, own (.slice oa pl.length ocap) q → q < wr.heap.size) := Lib.hid (fun q hq => (op.lt q hq).2)
      replace oc := oc.keep kw
      replace op := op.keep kw
      replace hch := hch.keep kw
      have HPL := Lib.hid hpl
      clear hpl
      have hc17 : c.length < 17592186044416 := by omega
      have hp17 : pl.length < 17592186044416 := by rw [HPL.out]; omega
      go_wp2_with fail
      generalize wr.alloc (.cells #[.int .i64 (-1)] 3) = W at *
      refine (Contains_any No _ c x W oc.readNo).mono ?_
      rintro e w' ⟨rfl, rfl⟩
      cases hh : hasB c x
      · have hxc : x ∉ c := by simpa [hasB] using hh
        clear hh
        by_cases hf : c.length = K
        · have hfi : ((c.length : Int) == (K : Int)) = true := by rw [hf]; simp
          have HF := Lib.hid hf
          clear hf
          go_wp2_with fail
          refine (rising_any No _ c W oc.readNo).mono ?_
          rintro e w5 ⟨v5, rfl, o5, k5⟩
          obtain ⟨ra5, rc5, rfl, _⟩ := id o5.view
          have HCF1 := HCF.out
          go_wp2_with fail
          clear HCF1
          have hb5 := ((hch.keep k5).cellD b 0 hbl (fun e => e)).trans hb
          have hne : 0 < (diffL c).length := by
            have hcp : 0 < c.length := by have := HF.out; omega
            obtain ⟨y, hy⟩ := List.exists_mem_of_length_pos hcp
            exact List.length_pos_of_mem (diffL_mem.2 hy)
          refine (farthest1_any No No j b _ _ rq (diffL c) w5 hb5 (hr.keep (hch.keep k5)) o5.readNo hlt hne).mono ?_
          rintro e w' ⟨p, rfl, hp, rfl⟩
          have HS : Hid (StepP K (rq.drop (j + 1)) x (cs j) (stay (· == p) c ++ [x]) p) := Lib.hid (by
            rw [HC.out]; unfold StepP; rw [if_neg hxc, if_pos HF.out]; exact ⟨hp.same (fun y => diffL_mem), rfl⟩)
          have bf5 : w5.frozen? ⟨wr.heap.size, 0, none⟩ = false := (k5.frozenD wr.heap.size 0 hws (fun e => e)).trans bf
          have bl5 := (k5.cellD wr.heap.size 0 hws (fun e => e)).trans bl
          have ks := (Chg.refl (fun q => q = wr.heap.size) w5).setCell (p := ⟨wr.heap.size, 0, none⟩) (fun _ => rfl) (.int .i64 p)
          have blS : (w5.setCell ⟨wr.heap.size, 0, none⟩ (.int .i64 p)).cell? ⟨wr.heap.size, 0, none⟩ = some (.int .i64 p) := World.cell?_setCell_same _ _ _ bl5
          have ocS := (oc.keep k5).step ks (fun q hq e => by have := HLO.out q hq; omega)
          have opS := (op.keep k5).step ks (fun q hq e => by have := HLP.out q hq; omega)
          have chS := (hch.keep k5).step ks (fun q hq hl => by omega)
          have hwS : wr.heap.size < (w5.setCell ⟨wr.heap.size, 0, none⟩ (.int .i64 p)).heap.size := by have := k5.size; simp [World.setCell]; omega
          clear hp hb5 hne oc op hch k5 o5 kw bl bf
          go_wp2_with fail
          clear bl5 bf5
          generalize w5.setCell ⟨wr.heap.size, 0, none⟩ (.int .i64 p) = W5 at *
          refine (DeleteFunc_any _ _ c W5 ocS 90 (.pointer (some ⟨wr.heap.size, 0, none⟩)) (· == p) (fun x w => cfPlan x _ w) (fun w2 h2 x => planBy1_any x p _ w2 ((h2.cellD wr.heap.size 0 hwS (fun e => by have := HLO.out _ e; omega)).trans blS))).mono ?_
          rintro e w6 ⟨v6, rfl, o6, k6, f6⟩
          obtain ⟨c6, n6, rfl, _⟩ := id o6.view
          have op6 := opS.step k6 (fun q h1 h2 => HD.out q h2 h1)
          have ch6 := chS.step k6 (fun q hq hl => by have := (ocS.lt q hq).1; omega)
          have bl6 := (k6.cellD wr.heap.size 0 hwS (fun e => by have := HLO.out _ e; omega)).trans blS
          have hw6 : wr.heap.size < w6.heap.size := Nat.lt_of_lt_of_le hwS k6.size
          have hs6 := ch6.size
          have h617 : (stay (· == p) c).length < 17592186044416 := by have := stay_len (· == p) c; omega
          clear k6 ocS opS chS blS hwS ks
          obtain ⟨m, hm⟩ : ∃ m, stay (· == p) c ++ [x] = m := ⟨_, rfl⟩
          have HL8 : Hid (m.length ≤ K) := Lib.hid (by
            have h1 := HP.out.ok j (Nat.le_refl _)
            rw [HC.out] at h1
            have h2 := HS.out.to5
            rw [HC.out, hm] at h2
            exact (h2.ok h1.1 h1.2).2.1)
          rw [hm] at HS
          have HM := Lib.hid hm
          clear hm
          go_wp2_with (at_builtin; refine wapp1 rfl (.tmp 37) (.tmp 39) rfl o6 rfl rfl h617 hs6 ?_)
          intro v8 w8 oc8 k8 f8
          rw [HM.out] at oc8
          obtain ⟨c8, n8, rfl, _⟩ := id oc8.view
          have op8 := op6.step k8 (fun q h1 h2 => HD.out q (f6 q h2) h1)
          have bl8 := (k8.cellD wr.heap.size 0 hw6 (fun e => by have := HLO.out _ (f6 _ e); omega)).trans bl6
          have hd8 := Lib.hid (fun q (h1 : own (.slice c8 m.length n8) q) (h2 : own (.slice oa pl.length ocap) q) => show False by
            rcases f8 q h1 with h | h
            · exact HD.out q (f6 q h) h2
            · have := (op6.lt q h2).2; omega)
          have ch8 := ch6.step k8 (fun q hq hl => by have := (o6.lt q hq).1; omega)
          have hs8 := ch8.size
          clear k8 op6 bl6 ch6 hs6 o6
          go_wp2_with (at_builtin; refine wapp1 rfl (.tmp 41) (.tmp 43) rfl op8 rfl rfl hp17 hs8 ?_)
          intro v9 w9 o9 k9 f9
          obtain ⟨oz, ozc, rfl, _⟩ := id o9.view
          go_wp2_with fail
          go_round
          case rel => exact ⟨j + 1, _, m, _, by omega, by go_num, oc8.step k9 hd8.out, o9, Lib.hid (fun q h1 h2 => by rcases f9 q h2 with h | h; exact hd8.out q h1 h; have := (oc8.lt q h1).2; omega), Lib.hid (HP.out.next HX.out HS.out), Lib.hid (if_neg (by omega)), HL8.out, by rw [List.length_append, HPL.out]; rfl, ch8.step k9 (fun q hq hl => by have := (op8.lt q hq).1; omega)⟩
          case measure => simp [intOf]; omega
        · have hfi : ((c.length : Int) == (K : Int)) = false := by rw [beq_eq_false_iff_ne]; omega
          have HS : Hid (StepP K (rq.drop (j + 1)) x (cs j) (c ++ [x]) (-1)) := Lib.hid (by rw [HC.out]; unfold StepP; rw [if_neg hxc, if_neg hf]; exact ⟨rfl, rfl⟩)
          have HL8 : Hid ((c ++ [x]).length ≤ K) := Lib.hid (by rw [List.length_append, List.length_singleton]; omega)
          obtain ⟨m, hm⟩ : ∃ m, c ++ [x] = m := ⟨_, rfl⟩
          rw [hm] at HS HL8
          have HM := Lib.hid hm
          clear hm hf
          go_wp2_with (at_builtin; refine wapp1 rfl (.tmp 37) (.tmp 39) rfl oc rfl rfl hc17 (by omega) ?_)
          intro v8 w8 oc8 k8 f8
          rw [HM.out] at oc8
          obtain ⟨c8, n8, rfl, _⟩ := id oc8.view
          have op8 := op.step k8 (fun q h1 h2 => HD.out q h2 h1)
          have bl8 := (k8.cellD wr.heap.size 0 hws (fun e => by have := HLO.out _ e; omega)).trans bl
          have hd8 := Lib.hid (fun q (h1 : own (.slice c8 m.length n8) q) (h2 : own (.slice oa pl.length ocap) q) => show False by
            rcases f8 q h1 with h | h
            · exact HD.out q h h2
            · have := (op.lt q h2).2; omega)
          have ch8 := hch.step k8 (fun q hq hl => by have := (oc.lt q hq).1; omega)
          have hs8 := ch8.size
          clear k8 oc op bl hch
          go_wp2_with (at_builtin; refine wapp1 rfl (.tmp 41) (.tmp 43) rfl op8 rfl rfl hp17 hs8 ?_)
          intro v9 w9 o9 k9 f9
          obtain ⟨oz, ozc, rfl, _⟩ := id o9.view
          go_wp2_with fail
          go_round
          case rel => exact ⟨j + 1, _, m, _, by omega, by go_num, oc8.step k9 hd8.out, o9, Lib.hid (fun q h1 h2 => by rcases f9 q h2 with h | h; exact hd8.out q h1 h; have := (oc8.lt q h1).2; omega), Lib.hid (HP.out.next HX.out HS.out), Lib.hid (if_neg (by omega)), HL8.out, by rw [List.length_append, HPL.out]; rfl, ch8.step k9 (fun q hq hl => by have := (op8.lt q hq).1; omega)⟩
          case measure => simp [intOf]; omega
      · have hxc : x ∈ c := by simpa [hasB] using hh
        have HS : Hid (StepP K (rq.drop (j + 1)) x (cs j) c (-1)) := Lib.hid (by rw [HC.out]; unfold StepP; rw [if_pos hxc]; exact ⟨rfl, rfl⟩)
        have hsW := hch.size
        have HL8 := Lib.hid hcl
        clear hh hcl
        go_wp2_with (at_builtin; refine wapp1 rfl (.tmp 41) (.tmp 43) rfl op rfl rfl hp17 hsW ?_)
        intro v9 w9 o9 k9 f9
        obtain ⟨oz, ozc, rfl, _⟩ := id o9.view
        go_wp2_with fail
        go_round
        case rel => exact ⟨j + 1, _, c, _, by omega, by go_num, oc.step k9 HD.out, o9, Lib.hid (fun q h1 h2 => by rcases f9 q h2 with h | h; exact HD.out q h1 h; have := (oc.lt q h1).2; omega), Lib.hid (HP.out.next HX.out HS.out), Lib.hid (if_neg (by omega)), HL8.out, by rw [List.length_append, HPL.out]; rfl, hch.step k9 (fun q hq hl => by have := (op.lt q hq).1; omega)⟩
        case measure => simp [intOf]; omega
    · have hjl : j = rq.length := by omega
      subst hjl
      go_wp2_with fail
      go_ret
      exact ⟨_, rfl, cs, pl, op, HP.out, hch⟩
end Go.Proofs.YtdgcohoneijleaaGreat
