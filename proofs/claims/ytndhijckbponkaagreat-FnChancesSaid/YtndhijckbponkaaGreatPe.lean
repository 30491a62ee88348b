import Derived.Test.YtndhijckbponkaaGreatPd
/- valid problems, both sides -/
namespace Go.Proofs.YtndhijckbponkaaGreat
open Go.RowKit

theorem prP_no1 {p : Pr} (h : inB (p.mv.length : Int) 1 4 = false) : bP (PrP p) = false := bP_no (fun hp => by rw [((prP_iff p).1 hp).1] at h; cases h)
theorem prP_no2 {p : Pr} (h : bP (MetP p.mv) = false) : bP (PrP p) = false := bP_no (fun hp => by rw [bP_yes ((prP_iff p).1 hp).2.1] at h; cases h)
theorem prP_no3 {p : Pr} (h : inB (p.sv.length : Int) 1 4 = false) : bP (PrP p) = false := bP_no (fun hp => by rw [((prP_iff p).1 hp).2.2.1] at h; cases h)
theorem prP_no4 {p : Pr} {r : Nat} (hr : r < p.sv.length) (h : rowB p.mv.length (p.sv.getD r []) = false) : bP (PrP p) = false := bP_no (fun hp => by rw [((prP_iff p).1 hp).2.2.2 r hr] at h; cases h)
theorem rowB_int (n : Nat) (l : List Int) : (((l.length : Int) == (n : Int)) && (l.all (fun c => inB c (-1) 20) && l.any (fun c => decide (0 ≤ c)))) = rowB n l := by
  unfold rowB
  congr 1
  by_cases e : l.length = n
  · subst e; simp
  · rw [decide_eq_false e]; exact beq_eq_false_iff_ne.2 (by omega)
set_option maxRecDepth 100000 in
set_option maxHeartbeats 1000000 in
theorem l8Good_any (A : Nat → Prop) (v : Value) (p : Pr) (w : World) (h : RPr A w v p) :
    Calls Tryz.prog 32 #[v] w (Ret fun r w' => r = .bool (bP (PrP p)) ∧ Chg No w w') := by
  obtain ⟨mv, sv, rfl, hm, hs⟩ := h
  obtain ⟨ma, mc, rfl⟩ := hm.shape
  obtain ⟨sa, sc, rfl⟩ := hs.shape
  have hl0 : (0 : Int) ≤ (p.sv.length : Int) := Int.natCast_nonneg _
  have hl1 := hs.len
  go_enter Tryz.func32, Tryz.ntmps32
  go_wp2_with fail
  refine bx1 (R := fun W => Calls _ _ _ W _) (fun W0 k0 b0 => ?_)
  refine (l1In_any _ _ _ _).mono ?_
  rintro e w1 ⟨rfl, rfl⟩
  have g0 := b0.c 0 _ rfl
  have g1 := b0.c 1 _ rfl
  cases h1 : inB (p.mv.length : Int) 1 4
  · have H := Lib.hid (prP_no1 h1)
    clear h1
    go_wp2_with fail
    go_ret
    exact ⟨_, rfl, by rw [H.out]; rfl, k0⟩
  · have H1 := Lib.hid h1
    clear h1
    go_wp2_with fail
    refine (l6Good_any A _ p.mv W0 (hm.keep k0)).mono ?_
    rintro e w2 ⟨_, rfl, rfl, k2⟩
    have kk := k0.keep k2
    have g0 := (b0.keep k2).c 0 _ rfl
    have g1 := (b0.keep k2).c 1 _ rfl
    cases h2 : bP (MetP p.mv)
    · have H := Lib.hid (prP_no2 h2)
      clear h2
      go_wp2_with fail
      go_ret
      exact ⟨_, rfl, by rw [H.out]; rfl, kk⟩
    · have H2 := Lib.hid h2
      clear h2
      go_wp2_with fail
      refine (l1In_any _ _ _ _).mono ?_
      rintro e w3 ⟨rfl, rfl⟩
      cases h3 : inB (p.sv.length : Int) 1 4
      · have H := Lib.hid (prP_no3 h3)
        clear h3
        go_wp2_with fail
        go_ret
        exact ⟨_, rfl, by rw [H.out]; rfl, kk⟩
      · have H3 := Lib.hid h3
        clear h3
        go_wp2_with fail
        go_loopw [3] (fun z wr => ∃ r : Nat, r ≤ p.sv.length ∧ z = .int .i64 (r : Int) ∧ Hid (∀ i, i < r → rowB p.mv.length (p.sv.getD i []) = true) ∧ Chg No w2 wr) (fun z _ => p.sv.length - (intOf z).toNat)
        case atStart => exact ⟨0, Nat.zero_le _, rfl, Lib.hid (fun i hi => absurd hi (Nat.not_lt_zero _)), Chg.refl _ _⟩
        case round =>
          obtain ⟨r, hr, rfl, HA, kr⟩ := hrel
          have hr0 : (0 : Int) ≤ (r : Int) := Int.natCast_nonneg _
          have g0 := ((b0.keep k2).keep kr).c 0 _ rfl
          have g1 := ((b0.keep k2).keep kr).c 1 _ rfl
          by_cases hlt : r < p.sv.length
          · have hr1 : (r : Int) < (p.sv.length : Int) := by omega
            have hwr : IntKind.i64.wrap ((r : Int) + 1) = (r : Int) + 1 := IntWalk.i64_in _ (by omega)
            obtain ⟨b, off, xa, xc, rfl, _, hcr, hrr⟩ := ((hs.keep kk).keep kr).row hlt
            obtain ⟨y, hy⟩ : ∃ y, p.sv.getD r [] = y := ⟨_, rfl⟩
            obtain ⟨m, hm'⟩ : ∃ m, y.length = m := ⟨_, rfl⟩
            rw [hy, hm'] at hcr hrr
            have HQ := Lib.hid (fun nq => l8Request_any A _ y (p.mv.length : Int) (wr.drewN nq) (hrr.keep ((Chg.refl No wr).drewN nq)))
            obtain ⟨rb, hrb⟩ : ∃ rb, rowB p.mv.length y = rb := ⟨_, rfl⟩
            rw [show (((y.length : Int) == (p.mv.length : Int)) && (y.all (fun c => inB c (-1) 20) && y.any (fun c => decide (0 ≤ c)))) = rb from (rowB_int _ _).trans hrb] at HQ
            rw [← hy] at hrb
            have HB := Lib.hid hrb
            clear hrb hy hm'
            go_wp2_with fail
            go_quiet ((go_at_call 82; exact same_quiet (HQ.out _)))
            have hd := (Chg.refl No wr).drewN nq
            have kr := kr.keep hd
            clear g0 g1 hcr
            generalize wr.drewN nq = W at hd kr ⊢
            cases rb
            · have H := Lib.hid (prP_no4 hlt HB.out)
              go_wp2_with fail
              go_ret
              exact ⟨_, rfl, by rw [H.out]; rfl, kk.keep kr⟩
            · go_wp2_with fail
              go_round
              case rel =>
                refine ⟨r + 1, by omega, by go_num, Lib.hid (fun i hi => ?_), kr⟩
                by_cases e : i = r
                · subst e; exact HB.out
                · exact HA.out i (by omega)
              case measure => simp [intOf]; omega
          · have hre : r = p.sv.length := by omega
            have H : Hid (bP (PrP p) = true) := Lib.hid (bP_yes ((prP_iff p).2 ⟨H1.out, bP_iff.1 H2.out, H3.out, fun i hi => HA.out i (by omega)⟩))
            subst hre
            go_wp2_with fail
            go_ret
            exact ⟨_, rfl, by rw [H.out]; rfl, kk.keep kr⟩
theorem cfPr1 (x : Int) (w : World) : (callFunc 92 #[.int .i64 x]).run Tryz.prog w = .ok (.enter 92 #[.int .i64 x]) w := by kernel_rfl
theorem cfPr (x c0 : Value) (w : World) : (callFunc 90 #[x, c0]).run Tryz.prog w = .ok (.enter 90 #[x, c0]) w := by kernel_rfl
set_option maxHeartbeats 400000 in
theorem isProblem11_any (x : Int) (w : World) :
    Calls Tryz.prog 92 #[.int .i64 x] w fun e w' => e = .returned (.bool (!inB x (-1) 20)) ∧ w = w' := by
  go_enter Tryz.func92, Tryz.ntmps92
  go_wp2_with (go_at_call 57; refine (within_any _ _ _ _).mono ?_; rintro e w' ⟨rfl, rfl⟩)
  go_ret
  exact ⟨rfl, rfl⟩
theorem any_not {α : Type} (l : List α) (p : α → Bool) : (l.any fun x => !p x) = !(l.all p) := by
  induction l with
  | nil => rfl
  | cons a l ih => rw [List.any_cons, List.all_cons, Bool.not_and, ih]
theorem maxOf_neg {l : List Int} (hl : 0 < l.length) : decide (Lib.maxOf l < 0) = !l.any (fun c => decide (0 ≤ c)) := by
  have key : ∀ (l : List Int) (m : Int), decide (l.foldl max m < 0) = !(decide (0 ≤ m) || l.any (fun c => decide (0 ≤ c))) := by
    intro l
    induction l with
    | nil =>
      intro m
      by_cases h : 0 ≤ m
      · rw [List.foldl_nil, decide_eq_true h, decide_eq_false (by omega : ¬ m < 0)]; rfl
      · rw [List.foldl_nil, decide_eq_false h, decide_eq_true (by omega : m < 0)]; rfl
    | cons a l ih =>
      intro m
      rw [List.foldl_cons, ih (max m a), List.any_cons, ← Bool.or_assoc]
      congr 2
      by_cases h1 : 0 ≤ m <;> by_cases h2 : 0 ≤ a <;> simp [h1, h2] <;> omega
  cases l with
  | nil => simp at hl
  | cons a l =>
    show decide ((a :: l).foldl max a < 0) = _
    rw [List.foldl_cons, key, List.any_cons, Int.max_self]
set_option maxRecDepth 100000 in
set_option maxHeartbeats 400000 in
theorem IndexFunc0_any (A : Nat → Prop) (v : Value) (l : List Int) (w : World) (h : RI A w v l) (f : FuncId) (p : Int → Bool)
    (hcf : ∀ x (w : World), (callFunc f #[.int .i64 x]).run Tryz.prog w = .ok (.enter f #[.int .i64 x]) w)
    (hp : ∀ x, x ∈ l → Calls Tryz.prog f #[.int .i64 x] w fun e w' => e = .returned (.bool (p x)) ∧ w = w') :
    Calls Tryz.prog 147 #[v, .func (.func f) #[] #[]] w fun e w' => e = .returned (.int .i64 (idxF l p)) ∧ w = w' := by
  obtain ⟨a, cap, rfl, hcap, hmax, hlen, _, hc⟩ := h
  have HP := Lib.hid hp
  clear hp
  go_enter Tryz.func147, Tryz.ntmps147
  go_wp2
  go_loop [4, 8] (fun r i => ∃ k : Nat, k ≤ l.length ∧ i = .int .i64 k ∧ r = .int .i64 0 ∧ (l.take k).any p = false) (fun _ i => l.length - (intOf i).toNat)
  case atStart => exact ⟨0, Nat.zero_le _, rfl, rfl, rfl⟩
  case round =>
    obtain ⟨k, hk, rfl, rfl, hh⟩ := hrel
    have H := Lib.hid hh
    clear hh
    by_cases hlt : k < l.length
    · obtain ⟨b, off, rfl, _, _, hcell⟩ := hc (by intro e; simp [e] at hlt)
      have hck := hcell k hlt
      have hs := Lib.hid (any_snoc l p k hlt)
      have ht := Lib.hid (idxF_hit l p k hlt)
      have hm : l[k] ∈ l := List.getElem_mem hlt
      go_wp2_with fail
      refine (HP.out _ hm).mono ?_
      rintro e w' ⟨rfl, rfl⟩
      go_wp2
      · go_ret
        have h : p l[k] = true := by assumption
        exact ⟨ret_int (ht.out h H.out).symm, rfl⟩
      · have h : p l[k] = false := by assumption
        go_round
        case rel => exact ⟨k + 1, by omega, by go_num, rfl, by rw [hs.out, H.out, h]; rfl⟩
        case measure => simp [intOf]; omega
    · have hkl : k = l.length := by omega
      go_wp2
      go_ret
      subst hkl
      exact ⟨ret_int (by have := H.out; rw [List.take_length] at this; exact (idxF_none l p this).symm), rfl⟩

set_option maxRecDepth 100000 in
set_option maxHeartbeats 400000 in
theorem ContainsFunc0_any (A : Nat → Prop) (v : Value) (l : List Int) (w : World) (h : RI A w v l) (f : FuncId) (p : Int → Bool)
    (hcf : ∀ x (w : World), (callFunc f #[.int .i64 x]).run Tryz.prog w = .ok (.enter f #[.int .i64 x]) w)
    (hp : ∀ x, x ∈ l → Calls Tryz.prog f #[.int .i64 x] w fun e w' => e = .returned (.bool (p x)) ∧ w = w') :
    Calls Tryz.prog 91 #[v, .func (.func f) #[] #[]] w fun e w' => e = .returned (.bool (l.any p)) ∧ w = w' := by
  have hge := idxF_ge l p
  have H := Lib.hid hge
  have HP := Lib.hid hp
  clear hge hp
  have HC := Lib.hid hcf
  clear hcf
  go_enter Tryz.func91, Tryz.ntmps91
  go_wp2_with fail
  refine (IndexFunc0_any A v l w h f p HC.out HP.out).mono ?_
  rintro e w' ⟨rfl, rfl⟩
  go_wp2_with fail
  go_ret
  exact ⟨ret_bool H.out, rfl⟩

set_option maxRecDepth 100000 in
set_option maxHeartbeats 1000000 in
theorem isProblem1_any (A : Nat → Prop) (v : Value) (l : List Int) (n : Nat) (hn : 0 < n) (b : Nat) (w : World) (h : RI A w v l) (hb : w.cell? ⟨b, 0, none⟩ = some (.int .i64 (n : Int))) :
    Calls Tryz.prog 90 #[v, .pointer (some ⟨b, 0, none⟩)] w (Ret fun r w' => r = .bool (!rowB n l) ∧ Chg No w w') := by
  have hv := h
  obtain ⟨a, cap, rfl, hcap, hmax, hlen, _, hc⟩ := h
  have HI := Lib.hid (rowB_int n l)
  go_enter Tryz.func90, Tryz.ntmps90
  by_cases hln : (l.length : Int) = (n : Int)
  · have hl0 : 0 < l.length := by omega
    obtain ⟨xb, xo, rfl, _, _, hcell⟩ := hc (by intro e; simp [e] at hl0)
    have HM := Lib.hid (maxOf_neg hl0)
    have HL := Lib.hid hln
    have hbeq : ((l.length : Int) == (n : Int)) = true := by rw [hln]; simp
    rw [hbeq, Bool.true_and] at HI
    rw [← hln] at hb
    clear hln hbeq hc
    go_wp2_with fail
    refine (ContainsFunc0_any A _ l w hv _ (fun x => !inB x (-1) 20) (fun x w => cfPr1 x w) (fun x _ => isProblem11_any x w)).mono ?_
    rintro e w1 ⟨rfl, rfl⟩
    have hna := any_not l (fun c => inB c (-1) 20)
    rw [hna]
    cases ha : l.all fun c => inB c (-1) 20
    · rw [ha, Bool.false_and] at HI
      clear hna ha
      go_wp2_with fail
      go_ret
      exact ⟨_, rfl, by rw [← HI.out]; rfl, Chg.refl _ _⟩
    · rw [ha, Bool.true_and] at HI
      clear hna ha
      go_wp2_with fail
      refine (Tryz.slices_Max_int xb xo l.length cap l w hl0 (Nat.le_refl _) (by omega) hcell).mono ?_
      rintro e w2 ⟨rfl, rfl⟩
      rw [List.take_length]
      obtain ⟨mx, hmx⟩ : ∃ mx, Lib.maxOf l = mx := ⟨_, rfl⟩
      have HI2 := HI.out
      have HM2 := HM.out
      rw [hmx] at HM2 ⊢
      have HR : Hid ((!rowB n l) = decide (mx < 0)) := Lib.hid (by rw [← HI2, HM2])
      clear HM HI HI2 HM2 hmx
      go_wp2_with fail
      go_ret
      exact ⟨_, rfl, by rw [HR.out]; rfl, Chg.refl _ _⟩
  · have HR : Hid (rowB n l = false) := Lib.hid (by unfold rowB; rw [decide_eq_false (by omega)]; rfl)
    clear HI hc
    go_wp2_with fail
    go_ret
    exact ⟨_, rfl, by rw [HR.out]; rfl, Chg.refl _ _⟩
set_option maxRecDepth 100000 in
set_option maxHeartbeats 1000000 in
theorem IsProblem_any (A : Nat → Prop) (v : Value) (p : Pr) (w : World) (h : RPr A w v p) :
    Calls Tryz.prog 30 #[v] w (Ret fun r w' => r = .bool (bP (PrP p)) ∧ Chg No w w') := by
  obtain ⟨mv, sv, rfl, hm, hs⟩ := h
  obtain ⟨ma, mc, rfl⟩ := hm.shape
  obtain ⟨sa, sc, rfl⟩ := hs.shape
  have hl0 : (0 : Int) ≤ (p.sv.length : Int) := Int.natCast_nonneg _
  have hl1 := hs.len
  go_enter Tryz.func30, Tryz.ntmps30
  go_wp2_with fail
  refine bx2 (R := fun W => Calls _ _ _ W _) (fun W0 k0 b0 b1 => ?_)
  refine (within_any _ _ _ _).mono ?_
  rintro e w1 ⟨rfl, rfl⟩
  have g0 := b0.c 0 _ rfl
  have g1 := b0.c 1 _ rfl
  cases h1 : inB (p.mv.length : Int) 1 4
  · have H := Lib.hid (prP_no1 h1)
    clear h1
    go_wp2_with fail
    go_ret
    exact ⟨_, rfl, by rw [H.out]; rfl, k0⟩
  · have H1 := Lib.hid h1
    clear h1
    go_wp2_with fail
    refine (metric_any _ _ _ _ _ _ W0).mono ?_
    rintro e w2 ⟨_, rfl, rfl, k2⟩
    have kk := k0.keep k2
    have b0 := b0.keep k2
    have b1 := b1.keep k2
    clear g0 g1
    go_wp2_with fail
    refine (IsMetric_any A _ p.mv w2 (hm.keep kk)).mono ?_
    rintro e w3 ⟨_, rfl, rfl, k3⟩
    have kk := kk.keep k3
    have b0 := b0.keep k3
    have b1 := b1.keep k3
    have g0 := b0.c 0 _ rfl
    have g1 := b0.c 1 _ rfl
    cases h2 : bP (MetP p.mv)
    · have H := Lib.hid (prP_no2 h2)
      clear h2
      go_wp2_with fail
      go_ret
      exact ⟨_, rfl, by rw [H.out]; rfl, kk⟩
    · have H2 := Lib.hid h2
      clear h2
      go_wp2_with fail
      refine (within_any _ _ _ _).mono ?_
      rintro e w4 ⟨rfl, rfl⟩
      cases h3 : inB (p.sv.length : Int) 1 4
      · have H := Lib.hid (prP_no3 h3)
        clear h3
        go_wp2_with fail
        go_ret
        exact ⟨_, rfl, by rw [H.out]; rfl, kk⟩
      · have H3 := Lib.hid h3
        clear h3
        go_wp2_with fail
        refine (ContainsFuncR_any A _ p.sv w3 (hs.keep kk) _ _ (fun l => !rowB p.mv.length l) (fun x w => cfPr x _ w) (fun i xv W hi hW hr => isProblem1_any A xv _ p.mv.length (by have := (inB_iff.1 H1.out).1; omega) _ W hr ((b1.keep hW).c 0 _ rfl))).mono ?_
        rintro e w5 ⟨_, rfl, rfl, k5⟩
        have kk := kk.keep k5
        have hna := any_not p.sv (fun l => rowB p.mv.length l)
        rw [hna]
        clear g0 g1 hna
        cases h4 : p.sv.all fun l => rowB p.mv.length l
        · have H : Hid (bP (PrP p) = false) := Lib.hid (bP_no (fun hp => by
            have hp := ((prP_iff p).1 hp).2.2.2
            have : (p.sv.all fun l => rowB p.mv.length l) = true := by
              rw [List.all_eq_true]
              intro x hx
              obtain ⟨j, hj, rfl⟩ := List.getElem_of_mem hx
              have := hp j hj
              rwa [List.getD_eq_getElem?_getD, List.getElem?_eq_getElem hj] at this
            rw [this] at h4; cases h4))
          clear h4
          go_wp2_with fail
          go_ret
          exact ⟨_, rfl, by rw [H.out]; rfl, kk⟩
        · have H : Hid (bP (PrP p) = true) := Lib.hid (bP_yes ((prP_iff p).2 ⟨H1.out, bP_iff.1 H2.out, H3.out, fun i hi => by
            rw [List.all_eq_true] at h4
            rw [List.getD_eq_getElem?_getD, List.getElem?_eq_getElem hi]
            exact h4 _ (List.getElem_mem hi)⟩))
          clear h4
          go_wp2_with fail
          go_ret
          exact ⟨_, rfl, by rw [H.out]; rfl, kk⟩
/-- a sequence of a problem -/
def seqB (k : Nat) (l : List Int) : Bool := decide (l.length ≤ 60) && belowB (k : Int) l
noncomputable def takB (p : Pr) (s : Int) (l : List Int) : Bool := bP (PrP p) && (inB s 0 ((p.mv.length : Int) - 1) && seqB p.sv.length l)
set_option maxRecDepth 100000 in
set_option maxHeartbeats 1000000 in
theorem isState_any (A : Nat → Prop) (v : Value) (p : Pr) (s : Int) (w : World) (h : RPr A w v p) :
    Calls Tryz.prog 151 #[v, .int .i64 s] w (Ret fun r w' => r = .bool (inB s 0 ((p.mv.length : Int) - 1)) ∧ Chg No w w') := by
  obtain ⟨mv, sv, rfl, hm, hs⟩ := h
  have hl := hm.len
  have hl0 : (0 : Int) ≤ (p.mv.length : Int) := Int.natCast_nonneg _
  have hw1 : IntKind.i64.wrap ((p.mv.length : Int) - 1) = (p.mv.length : Int) - 1 := IntWalk.i64_in _ (by omega)
  obtain ⟨ma, mc, rfl⟩ := hm.shape
  obtain ⟨sa, sc, rfl⟩ := hs.shape
  go_enter Tryz.func151, Tryz.ntmps151
  go_wp2_with fail
  refine bx1 (R := fun W => Calls _ _ _ W _) (fun W0 k0 b0 => ?_)
  refine (within_any _ _ _ _).mono ?_
  rintro e w1 ⟨rfl, rfl⟩
  go_wp2_with fail
  go_ret
  exact ⟨_, rfl, rfl, k0⟩
set_option maxRecDepth 100000 in
set_option maxHeartbeats 1000000 in
theorem isSequence_any (A B : Nat → Prop) (v rv : Value) (p : Pr) (l : List Int) (w : World) (h : RPr A w v p) (hr : RI B w rv l) :
    Calls Tryz.prog 96 #[v, rv] w (Ret fun r w' => r = .bool (seqB p.sv.length l) ∧ Chg No w w') := by
  obtain ⟨mv, sv, rfl, hm, hs⟩ := h
  have hl := hs.len
  obtain ⟨ma, mc, rfl⟩ := hm.shape
  obtain ⟨sa, sc, rfl⟩ := hs.shape
  obtain ⟨ra, rc, rfl, _⟩ := id hr
  have hI : Hid (seqB p.sv.length l = (decide ((l.length : Int) ≤ 60) && belowB (p.sv.length : Int) l)) := Lib.hid (by
    unfold seqB; congr 1; rw [decide_eq_decide]; omega)
  by_cases h60 : (l.length : Int) ≤ 60
  · go_enter Tryz.func96, Tryz.ntmps96
    go_wp2_with fail
    refine bx1 (R := fun W => Calls _ _ _ W _) (fun W0 k0 b0 => ?_)
    refine (areBelow_any B _ l (p.sv.length : Int) W0 (hr.keep k0) (by omega) (by omega)).mono ?_
    rintro e w1 ⟨_, rfl, rfl, k1⟩
    go_wp2_with fail
    go_ret
    exact ⟨_, rfl, by rw [hI.out, decide_eq_true h60, Bool.true_and]; rfl, k0.keep k1⟩
  · have hI2 : Hid (seqB p.sv.length l = false) := Lib.hid (by rw [hI.out, decide_eq_false h60]; rfl)
    clear hI
    go_enter Tryz.func96, Tryz.ntmps96
    go_wp2_with fail
    go_ret
    exact ⟨_, rfl, by rw [hI2.out]; rfl, (Chg.refl No w).alloc _⟩
set_option maxRecDepth 100000 in
set_option maxHeartbeats 1000000 in
theorem isStarted_any (A B : Nat → Prop) (v rv : Value) (p : Pr) (s : Int) (l : List Int) (w : World) (h : RPr A w v p) (hr : RI B w rv l) :
    Calls Tryz.prog 101 #[v, .int .i64 s, rv] w (Ret fun r w' => r = .bool (takB p s l) ∧ Chg No w w') := by
  have hv := h
  obtain ⟨mv, sv, rfl, hm, hs⟩ := h
  obtain ⟨ma, mc, rfl⟩ := hm.shape
  obtain ⟨sa, sc, rfl⟩ := hs.shape
  obtain ⟨ra, rc, rfl, _⟩ := id hr
  have HE : Hid (takB p s l = (bP (PrP p) && (inB s 0 ((p.mv.length : Int) - 1) && seqB p.sv.length l))) := Lib.hid rfl
  go_enter Tryz.func101, Tryz.ntmps101
  go_wp2_with fail
  refine bx1 (R := fun W => Calls _ _ _ W _) (fun W0 k0 b0 => ?_)
  refine (IsProblem_any A _ p W0 (hv.keep k0)).mono ?_
  rintro e w1 ⟨_, rfl, rfl, k1⟩
  have kk := k0.keep k1
  have b0 := b0.keep k1
  have g0 := b0.c 0 _ rfl
  have g1 := b0.c 1 _ rfl
  cases h1 : bP (PrP p)
  · have H1 := Lib.hid h1
    clear h1
    go_wp2_with fail
    go_ret
    exact ⟨_, rfl, by rw [HE.out, H1.out]; rfl, kk⟩
  · have H1 := Lib.hid h1
    clear h1
    go_wp2_with fail
    refine (isState_any A _ p s w1 (hv.keep kk)).mono ?_
    rintro e w2 ⟨_, rfl, rfl, k2⟩
    have kk := kk.keep k2
    have b0 := b0.keep k2
    have g0 := b0.c 0 _ rfl
    have g1 := b0.c 1 _ rfl
    cases h2 : inB s 0 ((p.mv.length : Int) - 1)
    · have H2 := Lib.hid h2
      clear h2
      go_wp2_with fail
      go_ret
      exact ⟨_, rfl, by rw [HE.out, H1.out, H2.out]; rfl, kk⟩
    · have H2 := Lib.hid h2
      clear h2
      go_wp2_with fail
      refine (isSequence_any A B _ _ p l w2 (hv.keep kk) (hr.keep kk)).mono ?_
      rintro e w3 ⟨_, rfl, rfl, k3⟩
      clear g0 g1
      go_wp2_with fail
      go_ret
      exact ⟨_, rfl, by rw [HE.out, H1.out, H2.out]; rfl, kk.keep k3⟩
theorem seqB_no {k : Nat} {l : List Int} {i : Nat} (hi : i < l.length) (h : inB (l.getD i 0) 0 ((k : Int) - 1) = false) : seqB k l = false := by
  unfold seqB
  rw [List.getD_eq_getElem?_getD, List.getElem?_eq_getElem hi] at h
  rw [belowB_stop _ l i hi h, Bool.and_false]
set_option maxRecDepth 100000 in
set_option maxHeartbeats 1000000 in
theorem l8Takes_any (A B : Nat → Prop) (v rv : Value) (p : Pr) (s : Int) (l : List Int) (w : World) (h : RPr A w v p) (hr : RI B w rv l) :
    Calls Tryz.prog 100 #[v, .int .i64 s, rv] w (Ret fun r w' => r = .bool (takB p s l) ∧ Chg No w w') := by
  have hv := h
  obtain ⟨mv, sv, rfl, hm, hs⟩ := h
  have hlm := hm.len
  have hls := hs.len
  have hl0 : (0 : Int) ≤ (p.mv.length : Int) := Int.natCast_nonneg _
  have hl1 : (0 : Int) ≤ (p.sv.length : Int) := Int.natCast_nonneg _
  have hw1 : IntKind.i64.wrap ((p.mv.length : Int) - 1) = (p.mv.length : Int) - 1 := IntWalk.i64_in _ (by omega)
  have hw2 : IntKind.i64.wrap ((p.sv.length : Int) - 1) = (p.sv.length : Int) - 1 := IntWalk.i64_in _ (by omega)
  obtain ⟨ma, mc, rfl⟩ := hm.shape
  obtain ⟨sa, sc, rfl⟩ := hs.shape
  obtain ⟨ra, rc, rfl, _⟩ := id hr
  have HE : Hid (takB p s l = (bP (PrP p) && (inB s 0 ((p.mv.length : Int) - 1) && seqB p.sv.length l))) := Lib.hid rfl
  go_enter Tryz.func100, Tryz.ntmps100
  go_wp2_with fail
  refine bx1 (R := fun W => Calls _ _ _ W _) (fun W0 k0 b0 => ?_)
  refine (l8Good_any A _ p W0 (hv.keep k0)).mono ?_
  rintro e w1 ⟨_, rfl, rfl, k1⟩
  have kk := k0.keep k1
  have b0 := b0.keep k1
  have g0 := b0.c 0 _ rfl
  have g1 := b0.c 1 _ rfl
  cases h1 : bP (PrP p)
  · have H1 := Lib.hid h1
    clear h1
    go_wp2_with fail
    go_ret
    exact ⟨_, rfl, by rw [HE.out, H1.out]; rfl, kk⟩
  · have H1 := Lib.hid h1
    clear h1
    go_wp2_with fail
    refine (l1In_any _ _ _ _).mono ?_
    rintro e w2 ⟨rfl, rfl⟩
    cases h2 : inB s 0 ((p.mv.length : Int) - 1)
    · have H2 := Lib.hid h2
      clear h2
      go_wp2_with fail
      go_ret
      exact ⟨_, rfl, by rw [HE.out, H1.out, H2.out]; rfl, kk⟩
    · have H2 := Lib.hid h2
      clear h2
      by_cases h60 : 60 < (l.length : Int)
      · have H3 : Hid (seqB p.sv.length l = false) := Lib.hid (by unfold seqB; rw [decide_eq_false (by omega)]; rfl)
        go_wp2_with fail
        go_ret
        exact ⟨_, rfl, by rw [HE.out, H1.out, H2.out, H3.out]; rfl, kk⟩
      · go_wp2_with fail
        have kr0 := Chg.refl No w1
        go_loopw [7] (fun z wr => ∃ i : Nat, i ≤ l.length ∧ z = .int .i64 (i : Int) ∧ Hid (belowB (p.sv.length : Int) (l.take i) = true) ∧ Chg No w1 wr) (fun z _ => l.length - (intOf z).toNat)
        case atStart => exact ⟨0, Nat.zero_le _, rfl, Lib.hid rfl, Chg.refl _ _⟩
        case round =>
          obtain ⟨i, hi, rfl, HB, kr⟩ := hrel
          have hi0 : (0 : Int) ≤ (i : Int) := Int.natCast_nonneg _
          clear g0 g1
          have g0 := (b0.keep kr).c 0 _ rfl
          have g1 := (b0.keep kr).c 1 _ rfl
          by_cases hlt : i < l.length
          · have hi1 : (i : Int) < (l.length : Int) := by omega
            have hwi : IntKind.i64.wrap ((i : Int) + 1) = (i : Int) + 1 := IntWalk.i64_in _ (by omega)
            obtain ⟨rb, ro, rfl, _, hcell⟩ := ((hr.keep kk).keep kr).cellN hlt
            have HS := Lib.hid (belowB_snoc (p.sv.length : Int) l i hlt)
            obtain ⟨y, hy⟩ : ∃ y, l.getD i 0 = y := ⟨_, rfl⟩
            have hy' : l[i] = y := by rw [← hy, List.getD_eq_getElem?_getD, List.getElem?_eq_getElem hlt]; rfl
            rw [hy'] at HS
            rw [hy] at hcell
            have HY := Lib.hid hy
            clear hy hy'
            go_wp2_with fail
            go_quiet ((go_at_call 97; exact same_quiet (l1In_any _ _ _ _)))
            have hd := (Chg.refl No wr).drewN nq
            have kr := kr.keep hd
            clear g0 g1 hcell
            generalize wr.drewN nq = W at hd kr ⊢
            cases h3 : inB y 0 ((p.sv.length : Int) - 1)
            · have H3 : Hid (seqB p.sv.length l = false) := Lib.hid (seqB_no hlt (by rw [HY.out]; exact h3))
              clear h3
              go_wp2_with fail
              go_ret
              exact ⟨_, rfl, by rw [HE.out, H1.out, H2.out, H3.out]; rfl, kk.keep kr⟩
            · have H3 := Lib.hid h3
              clear h3
              go_wp2_with fail
              go_round
              case rel => exact ⟨i + 1, by omega, by go_num, Lib.hid (by rw [HS.out, HB.out, H3.out]; rfl), kr⟩
              case measure => simp [intOf]; omega
          · have hie : i = l.length := by omega
            subst hie
            have H3 : Hid (seqB p.sv.length l = true) := Lib.hid (by
              have := HB.out
              rw [List.take_length] at this
              unfold seqB; rw [this, decide_eq_true (by omega)]; rfl)
            go_wp2_with fail
            go_ret
            exact ⟨_, rfl, by rw [HE.out, H1.out, H2.out, H3.out]; rfl, kk.keep kr⟩
end Go.Proofs.YtndhijckbponkaaGreat
