import Derived.Test.YtampibdnnbekjaaEj
/- what DrawExpectedFaults draws: the walk -/
namespace Go.Proofs.Ytampibdnnbekjaa
open Go.RowKit

/-- weights that were drawn -/
def Wd (l : List Int) : Prop := l.length ≤ 9 ∧ ∀ x ∈ l, 0 ≤ x ∧ x ≤ 3
theorem Wd.snoc {l : List Int} (h : Wd l) (hl : l.length ≤ 8) {x : Int} (hx : 0 ≤ x ∧ x ≤ 3) : Wd (l ++ [x]) := by
  refine ⟨by rw [List.length_append]; simp; omega, fun y hy => ?_⟩
  rw [List.mem_append, List.mem_singleton] at hy
  rcases hy with hy | rfl
  · exact h.2 y hy
  · exact hx
theorem Wd.set {l : List Int} (h : Wd l) (i : Nat) : Wd (l.set i 0) :=
  ⟨by rw [List.length_set]; exact h.1, mem_set h.2 (by omega)⟩
theorem Wd.sum {l : List Int} (h : Wd l) : ∀ j, j ≤ l.length → -1000000000 ≤ sumTo (fun a => l.getD a 0) j ∧ sumTo (fun a => l.getD a 0) j ≤ 1000000000 := by
  intro j hj
  have := sumTo_bound (g := fun a => l.getD a 0) (B := 3) (m := l.length) (fun i hi => h.2 _ (getD_mem hi)) j hj
  have := h.1
  omega
theorem Wd.many {l : List Int} (h : Wd l) (hs : 10 < sumW l) : 2 ≤ l.length := by
  have := sumTo_bound (g := fun a => l.getD a 0) (B := 3) (m := l.length) (fun i hi => h.2 _ (getD_mem hi)) l.length (Nat.le_refl _)
  unfold sumW at hs
  omega
def DrawnE (base : Nat) (e : Ending) (w' : World) : Prop := ∃ (n p k : Int) (wv : Value) (ws : List Int) (L : Int), e = .returned (.tuple #[.int .i64 n, .int .i64 p, .int .i64 k, wv, .int .i64 L]) ∧ OI base w' wv ws

theorem CurB.step {S : Nat → Prop} {w w' : World} {b B : Nat} {a : Option Addr} {n cap : Nat} {at_ seed : Int} (h : CurB w b a n cap at_ seed) (hc : Chg S w w') (hS : ∀ q, S q → B ≤ q) (hb : b < B) (ha : 0 < n → ∀ x, a = some x → x.block < B) : CurB w' b a n cap at_ seed := by
  have hl := h.lt
  have hSb : ¬ S b := fun e => by have := hS b e; omega
  refine ⟨(hc.cellD b 0 hl hSb).trans h.c0, (hc.cellD b 1 hl hSb).trans h.c1, (hc.cellD b 2 hl hSb).trans h.c2, fun o => (World.frozen?_of_block (hc.block b hl hSb)).trans (h.fr o), fun hn => ?_⟩
  obtain ⟨cb, off, e1, e2, e3, e4⟩ := h.code hn
  have hcB := ha hn _ e1
  have hSc : ¬ S cb := fun e => by have := hS cb e; simp only at hcB; omega
  refine ⟨cb, off, e1, e2, Nat.lt_of_lt_of_le e3 hc.size, fun i hi => ?_⟩
  obtain ⟨x, h6, h7⟩ := e4 i hi
  exact ⟨x, (hc.cellD cb _ e3 hSc).trans h6, h7⟩

set_option maxRecDepth 100000 in
set_option maxHeartbeats 4000000 in
theorem DrawExpected_any (v : Value) (N : Nat) (w : World) (h : Code w v N) (hN : N ≤ 70001) :
    Calls Try.prog 11 #[v] w fun e w' => DrawnE w.heap.size e w' ∧ Chg No w w' := by
  obtain ⟨τ, hτ1, hτ2⟩ := seed_rank
  have HT1 := Lib.hid hτ1
  have HT2 := Lib.hid hτ2
  clear hτ1 hτ2
  obtain ⟨a, cp, rfl⟩ := h.shape
  have k0 := (Chg.refl No w).alloc (.cells #[.slice a N cp, .int .i64 0, .int .u64 0] 53)
  have hc := Cur.new h (by omega) 53
  have hz := World.size_alloc w (.cells #[.slice a N cp, .int .i64 0, .int .u64 0] 53)
  clear h
  go_enter Try.func11, Try.ntmps11
  go_wp2_with fail
  generalize (w.alloc (.cells #[.slice a N cp, .int .i64 0, .int .u64 0] 53)) = w0 at k0 hc hz ⊢
  refine (items_any w.heap.size (w.heap.size + 1) 0 w0 hc (by omega)).mono ?_
  rintro e w1 ⟨n, rfl, hn0, hn1, hc1, k1⟩
  have kk1 : Chg No w w1 := k0.step k1 (fun q hq hl => by omega)
  have hz1 := k1.size
  clear hc k0
  obtain ⟨M, hM⟩ : ∃ M, min n 8 = M := ⟨_, rfl⟩
  have hM8 : M ≤ 8 := by omega
  have HM := Lib.hid hM
  go_wp2_with fail
  go_loopw [9, 10] (fun s i wr => ∃ (m : Nat) (l : List Int), i = .int .i64 m ∧ l.length = m ∧ m ≤ 8 ∧ Wd l ∧ OI (w.heap.size + 1) wr s l ∧ Cur wr w.heap.size (w.heap.size + 1) (4 + 2 * m) ∧ Chg No w wr) (fun _ i _ => 9 - (intOf i).toNat)
  case atStart => exact ⟨0, [], rfl, rfl, by omega, ⟨by simp, fun x hx => absurd hx (List.not_mem_nil)⟩, OI.zero (by omega), hc1.keep ((Chg.refl No w1).alloc _), kk1.alloc _⟩
  case round =>
    obtain ⟨_, l, rfl, rfl, hm, hw, ho, hcur, hch⟩ := hrel
    have hm0 : (0 : Int) ≤ (l.length : Int) := Int.natCast_nonneg _
    have hsz := hcur.lt
    obtain ⟨oa, oc, rfl, _⟩ := ho.view
    go_wp2_with fail
    refine (l1Least_any _ _ _).mono ?_
    rintro e w' ⟨rfl, rfl⟩
    rw [HM.out]
    by_cases hlt : (l.length : Int) < M
    · have hw1 : IntKind.i64.wrap ((l.length : Int) + 1) = (l.length : Int) + 1 := IntWalk.i64_in _ (by omega)
      go_wp2_with fail
      refine (among_lit w.heap.size (w.heap.size + 1) (4 + 2 * l.length) wr [1, 1, 2, 0, 3] _ _ _ _ _ rfl rfl rfl rfl hcur (by omega) (by decide) (by decide)).mono ?_
      rintro e w2 ⟨x, rfl, hx, hc2, k2⟩
      have ho2 := ho.step k2 (fun q hq e => by have := (ho.lt q hq).1; omega)
      have hx3 : 0 ≤ x ∧ x ≤ 3 := by
        simp only [List.mem_cons, List.not_mem_nil, or_false] at hx
        omega
      clear hx
      have hs2 := hc2.lt
      have hch2 : Chg No w w2 := hch.step k2 (fun q hq hl => by omega)
      go_wp2_with (at_builtin; refine wapp1 rfl (.tmp 23) (.tmp 27) rfl ho2 rfl rfl (by omega) (by omega) ?_)
      intro v3 w3 h3 k3 f3
      have hc3 := hc2.step k3 (fun q hq => (ho2.lt q hq).1)
      have hch3 : Chg No w w3 := hch2.step k3 (fun q hq hl => by have := (ho2.lt q hq).1; omega)
      go_wp2_with fail
      go_round
      case rel => exact ⟨l.length + 1, l ++ [x], by go_num, by rw [List.length_append]; rfl, by omega, hw.snoc (by omega) hx3, h3, hc3.more (by omega), hch3⟩
      case measure => simp [intOf]; omega
    · go_wp2_with fail
      refine (pick_any w.heap.size (w.heap.size + 1) (4 + 2 * l.length) 24 wr hcur (by omega) (by omega)).mono ?_
      rintro e w2 ⟨x, rfl, hx0, hx1, _, hc2, k2⟩
      have ho2 := ho.step k2 (fun q hq e => by have := (ho.lt q hq).1; omega)
      have hs2 := hc2.lt
      have hch2 : Chg No w w2 := hch.step k2 (fun q hq hl => by omega)
      replace hc2 := hc2.more (show 4 + 2 * l.length + 2 ≤ 100 by omega)
      clear ho hcur hch
      clear hx1
      by_cases hx0 : x = 0
      · subst hx0
        go_wp2_with (at_builtin; refine wapp1 rfl (.tmp 33) (.tmp 34) rfl ho2 rfl rfl (by omega) (by omega) ?_)
        intro v3 w3 h3 k3 f3
        have hc3 := hc2.step k3 (fun q hq => (ho2.lt q hq).1)
        have hch3 : Chg No w w3 := hch2.step k3 (fun q hq hl => by have := (ho2.lt q hq).1; omega)
        have hw3 := hw.snoc (by omega) (show 0 ≤ (1 : Int) ∧ (1 : Int) ≤ 3 by omega)
        generalize l ++ [1] = l3 at h3 hw3
        clear hw ho2 hc2 hch2 k2 k3 f3
        go_wp2_with fail
        obtain ⟨ca, cn, cc, cm, cs, hcb, hcm, hcn, hcB, hca⟩ := hc3
        obtain ⟨va, vc, rfl, _⟩ := h3.view
        obtain ⟨NL, hNL⟩ : ∃ NL, l3.length = NL := ⟨_, rfl⟩
        obtain ⟨P, hP⟩ : ∃ P : Nat, P = 281474976710656 := ⟨_, rfl⟩
        have HCA := Lib.hid hca
        clear hca
        rw [hNL] at h3 ⊢
        have HP := Lib.hid hP
        clear hP
        go_loopw [49] (fun _ wr => ∃ (l : List Int) (m : Nat) (s : Int), l.length = NL ∧ Wd l ∧ OI (w.heap.size + 1) wr (.slice va NL vc) l ∧ CurB wr w.heap.size ca cn cc (m : Int) s ∧ Kb τ cn m s ∧ Chg No w wr) (fun _ wr => rkM τ P cn wr w.heap.size)
        case atStart => exact ⟨l3, cm, cs, hNL, hw3, h3, hcb, .inl (by omega), hch3⟩
        case round =>
          obtain ⟨l, m, s, hl, hw, ho, hcb, hkb, hch⟩ := hrel
          have hsz := hcb.lt
          have hmk := hkb.le hcn
          have hrk := Lib.hid (rkM_at (τ := τ) (P := P) (n := cn) hcb)
          go_wp2_with fail
          refine (l11Sum_any No _ l _ ho.readNo hw.sum).mono ?_
          rintro e w' ⟨rfl, rfl⟩
          have hmany := hw.many
          obtain ⟨S, hS⟩ : ∃ S, sumW l = S := ⟨_, rfl⟩
          rw [hS] at hmany ⊢
          clear hS
          by_cases h10 : 10 < S
          · have hm2 := hmany h10
            have hm9 := hw.1
            clear hmany
            go_wp2_with fail
            refine (one_at w.heap.size ca cn cc m s 24 _ hcb (by omega) (by omega) (by omega) (by omega)).mono ?_
            rintro e w4 ⟨r, rfl, ⟨s1, hb1, hs1⟩, k4⟩
            have ho4 := ho.step k4 (fun q hq e => by have := (ho.lt q hq).1; omega)
            have hch4 : Chg No w w4 := hch.step k4 (fun q hq hl => by omega)
            cases hr : r
            · have HS1 := Lib.hid hs1
              clear hs1
              go_wp2_with fail
              refine (pick_at w.heap.size ca cn cc (m + 1) s1 (NL : Int) _ hb1 (by omega) (by omega) (by omega) (by omega)).mono ?_
              rintro e w5 ⟨x, rfl, hx0, hx1, ⟨s2, hb2, hs2⟩, k5⟩
              have HS2 := Lib.hid hs2
              clear hs2
              have ho5 := ho4.step k5 (fun q hq e => by have := (ho4.lt q hq).1; omega)
              have hch5 : Chg No w w5 := hch4.step k5 (fun q hq hl => by omega)
              obtain ⟨q, rfl⟩ : ∃ q : Nat, x = (q : Int) := ⟨x.toNat, by omega⟩
              obtain ⟨_, _, he, hv1, hv2, hview⟩ := ho5.view
              simp only [Value.slice.injEq] at he
              obtain ⟨rfl, he2, rfl⟩ := he
              clear he2
              obtain ⟨g, rfl, hg1, hg2, hcell, hfr⟩ := hview (by omega)
              have hcq := hcell q (by omega)
              have hfq := hfr q
              obtain ⟨o1, o2⟩ := ho5.store q 0
              have hb3 := hb2.step (B := w.heap.size + 1) o2 (fun q hq => by omega) (by omega) HCA.out
              have hrk2 := Lib.hid (rkM_at (τ := τ) (P := P) (n := cn) hb3)
              clear hcell hfr hview
              go_wp2_with fail
              go_round
              case rel => exact ⟨l.set q 0, m + 2, s2, by rw [List.length_set]; exact hl, hw.set q, o1, hb3, hkb.next hcn HT1.out HT2.out HS1.out (fun h => (HS2.out h).1) hr, hch5.step o2 (fun q hq hl => by omega)⟩
              case measure =>
                rw [hrk.out, hrk2.out]
                exact rkM_less (fun s => by have := HT1.out s; have := HP.out; omega) HT2.out HS1.out (fun h => (HS2.out h).1) hr
            · have hcT : Cur w4 w.heap.size (w.heap.size + 1) 562949954500000 := ⟨ca, cn, cc, m + 1, s1, hb1, by omega, hcn, hcB, HCA.out⟩
              have hoT := ho4
              have hchT := hch4
              clear hs1 hb1 hcb ho ho4
              have zT := hcT.lt
              go_wp2_with fail
              refine (policy_any w.heap.size (w.heap.size + 1) 562949954500000 _ hcT (by omega)).mono ?_
              rintro e w5 ⟨p, rfl, _, _, hc5, k5⟩
              have ho5 := hoT.step k5 (fun q hq e => by have := (hoT.lt q hq).1; omega)
              have hch5 : Chg No w w5 := hchT.step k5 (fun q hq hl => by omega)
              go_wp2_with fail
              refine (size4_any w.heap.size (w.heap.size + 1) _ _ hc5 (by omega)).mono ?_
              rintro e w6 ⟨k, rfl, _, _, hc6, k6⟩
              have ho6 := ho5.step k6 (fun q hq e => by have := (ho5.lt q hq).1; omega)
              have hch6 : Chg No w w6 := hch5.step k6 (fun q hq hl => by omega)
              have hz6 := hc6.lt
              have ka := (Chg.refl No w6).alloc (.cells #[.int .i64 0, .int .i64 1, .int .i64 2, .int .i64 3, .int .i64 4, .int .i64 5, .int .i64 (-1)] 3)
              have hr : ∀ n, n ≤ 7 → RI (fun q => q = w.heap.size) (w6.alloc (.cells #[.int .i64 0, .int .i64 1, .int .i64 2, .int .i64 3, .int .i64 4, .int .i64 5, .int .i64 (-1)] 3)) (.slice (some ⟨w6.heap.size, 0, none⟩) n 7) (([0, 1, 2, 3, 4, 5, -1] : List Int).take n) := fun n hn => RI.lit _ w6 [0, 1, 2, 3, 4, 5, -1] _ _ _ n 7 rfl rfl rfl hn (by omega) (by decide)
              have HR := Lib.hid hr
              clear hr
              go_wp2_with fail
              refine (pick_any w.heap.size (w.heap.size + 1) _ 16 _ (hc6.keep ka) (by omega) (by omega)).mono ?_
              rintro e w7 ⟨x, rfl, hx0, hx1, _, hc7, k7⟩
              have hx2 := hx1 (by omega)
              have ht := Int.tdiv_eq_ediv_of_nonneg (a := x) (b := 6) hx0
              obtain ⟨y, hy⟩ : ∃ y, x / 6 = y := ⟨_, rfl⟩
              have hy0 : 0 ≤ y := by omega
              have hy1 : y ≤ 2 := by omega
              rw [hy] at ht
              have hw1 : IntKind.i64.wrap y = y := IntWalk.i64_in _ (by omega)
              obtain ⟨m7, hm7⟩ : ∃ m : Nat, 5 + y = (m : Int) := ⟨(5 + y).toNat, by omega⟩
              have hw2 : IntKind.i64.wrap (5 + y) = (m7 : Int) := (IntWalk.i64_in _ (by omega)).trans hm7
              have hm70 : m7 ≤ 7 := by omega
              have hm71 : 1 ≤ m7 := by omega
              have hsl : ∀ w' : World, (Instr.slice 22 (.slice (some ⟨w6.heap.size, 0, none⟩) 7 7) none (some (.int .i64 (m7 : Int))) none).run Try.prog w' = .ok (.slice (some ⟨w6.heap.size, 0, none⟩) m7 7) w' := (fun w' => by rw [run_slice_h w' 22 _ 7 7 und_el .i64 _ (by omega) (by omega), run_sz]; simp [Result.andThen, sliced, Addr.add])
              clear hm7 hy
              go_wp2_with fail
              refine (among_any w.heap.size (w.heap.size + 1) _ _ (([0, 1, 2, 3, 4, 5, -1] : List Int).take m7) _ hc7 (by omega) ((HR.out m7 hm70).step k7 (fun _ h => h)) (by rw [List.length_take]; simp; omega) (by rw [List.length_take]; simp; omega)).mono ?_
              rintro e w8 ⟨L, rfl, _, hc8, k8⟩
              have ho7 := (ho6.keep ka).step k7 (fun q hq e => by have := (ho6.lt q hq).1; omega)
              have ho8 := ho7.step k8 (fun q hq e => by have := (ho7.lt q hq).1; omega)
              have hch8 : Chg No w w8 := ((hch6.keep ka).step k7 (fun q hq hl => by omega)).step k8 (fun q hq hl => by omega)
              clear hsl
              go_wp2_with fail
              refine bodyPost_ret (v := .tuple #[.int .i64 n, .int .i64 p, .int .i64 k, .slice va NL vc, .int .i64 L]) (by simp [results, Try.results11, go_sem]) rfl ?_
              exact ⟨⟨n, p, k, _, _, L, rfl, ho8.weak (by omega)⟩, hch8⟩
          · have hcT : Cur _ w.heap.size (w.heap.size + 1) 562949954500000 := ⟨ca, cn, cc, m, s, hcb, by omega, hcn, hcB, HCA.out⟩
            have hoT := ho
            have hchT := hch
            clear hcb ho
            have zT := hcT.lt
            go_wp2_with fail
            refine (policy_any w.heap.size (w.heap.size + 1) 562949954500000 _ hcT (by omega)).mono ?_
            rintro e w5 ⟨p, rfl, _, _, hc5, k5⟩
            have ho5 := hoT.step k5 (fun q hq e => by have := (hoT.lt q hq).1; omega)
            have hch5 : Chg No w w5 := hchT.step k5 (fun q hq hl => by omega)
            go_wp2_with fail
            refine (size4_any w.heap.size (w.heap.size + 1) _ _ hc5 (by omega)).mono ?_
            rintro e w6 ⟨k, rfl, _, _, hc6, k6⟩
            have ho6 := ho5.step k6 (fun q hq e => by have := (ho5.lt q hq).1; omega)
            have hch6 : Chg No w w6 := hch5.step k6 (fun q hq hl => by omega)
            have hz6 := hc6.lt
            have ka := (Chg.refl No w6).alloc (.cells #[.int .i64 0, .int .i64 1, .int .i64 2, .int .i64 3, .int .i64 4, .int .i64 5, .int .i64 (-1)] 3)
            have hr : ∀ n, n ≤ 7 → RI (fun q => q = w.heap.size) (w6.alloc (.cells #[.int .i64 0, .int .i64 1, .int .i64 2, .int .i64 3, .int .i64 4, .int .i64 5, .int .i64 (-1)] 3)) (.slice (some ⟨w6.heap.size, 0, none⟩) n 7) (([0, 1, 2, 3, 4, 5, -1] : List Int).take n) := fun n hn => RI.lit _ w6 [0, 1, 2, 3, 4, 5, -1] _ _ _ n 7 rfl rfl rfl hn (by omega) (by decide)
            have HR := Lib.hid hr
            clear hr
            go_wp2_with fail
            refine (pick_any w.heap.size (w.heap.size + 1) _ 16 _ (hc6.keep ka) (by omega) (by omega)).mono ?_
            rintro e w7 ⟨x, rfl, hx0, hx1, _, hc7, k7⟩
            have hx2 := hx1 (by omega)
            have ht := Int.tdiv_eq_ediv_of_nonneg (a := x) (b := 6) hx0
            obtain ⟨y, hy⟩ : ∃ y, x / 6 = y := ⟨_, rfl⟩
            have hy0 : 0 ≤ y := by omega
            have hy1 : y ≤ 2 := by omega
            rw [hy] at ht
            have hw1 : IntKind.i64.wrap y = y := IntWalk.i64_in _ (by omega)
            obtain ⟨m7, hm7⟩ : ∃ m : Nat, 5 + y = (m : Int) := ⟨(5 + y).toNat, by omega⟩
            have hw2 : IntKind.i64.wrap (5 + y) = (m7 : Int) := (IntWalk.i64_in _ (by omega)).trans hm7
            have hm70 : m7 ≤ 7 := by omega
            have hm71 : 1 ≤ m7 := by omega
            have hsl : ∀ w' : World, (Instr.slice 22 (.slice (some ⟨w6.heap.size, 0, none⟩) 7 7) none (some (.int .i64 (m7 : Int))) none).run Try.prog w' = .ok (.slice (some ⟨w6.heap.size, 0, none⟩) m7 7) w' := (fun w' => by rw [run_slice_h w' 22 _ 7 7 und_el .i64 _ (by omega) (by omega), run_sz]; simp [Result.andThen, sliced, Addr.add])
            clear hm7 hy
            go_wp2_with fail
            refine (among_any w.heap.size (w.heap.size + 1) _ _ (([0, 1, 2, 3, 4, 5, -1] : List Int).take m7) _ hc7 (by omega) ((HR.out m7 hm70).step k7 (fun _ h => h)) (by rw [List.length_take]; simp; omega) (by rw [List.length_take]; simp; omega)).mono ?_
            rintro e w8 ⟨L, rfl, _, hc8, k8⟩
            have ho7 := (ho6.keep ka).step k7 (fun q hq e => by have := (ho6.lt q hq).1; omega)
            have ho8 := ho7.step k8 (fun q hq e => by have := (ho7.lt q hq).1; omega)
            have hch8 : Chg No w w8 := ((hch6.keep ka).step k7 (fun q hq hl => by omega)).step k8 (fun q hq hl => by omega)
            clear hsl
            go_wp2_with fail
            refine bodyPost_ret (v := .tuple #[.int .i64 n, .int .i64 p, .int .i64 k, .slice va NL vc, .int .i64 L]) (by simp [results, Try.results11, go_sem]) rfl ?_
            exact ⟨⟨n, p, k, _, _, L, rfl, ho8.weak (by omega)⟩, hch8⟩
      · by_cases hx1 : x = 1
        · subst hx1
          obtain ⟨nn, hnn⟩ : ∃ nn : Nat, max 0 M = (nn : Int) := ⟨(max 0 M).toNat, by omega⟩
          have hnn8 : nn ≤ 8 := by omega
          have HNN := Lib.hid hnn
          clear hnn
          go_wp2_with fail
          refine (l1Least_any _ _ _).mono ?_
          rintro e w' ⟨rfl, rfl⟩
          rw [HM.out]
          go_wp2_with fail
          refine (l1Most_any _ _ _).mono ?_
          rintro e w' ⟨rfl, rfl⟩
          rw [HNN.out]
          go_wp2_with (refine wmake rfl (.tmp 40) (.tmp 40) rfl nn rfl rfl (by omega) ?_)
          intro w3 hW3 k3
          have hc3 := hc2.keep k3
          have hch3 := hch2.keep k3
          have h3 := hW3.weak (show w.heap.size + 1 ≤ w2.heap.size by omega)
          have hw3 : Wd (List.replicate nn 0) := ⟨by rw [List.length_replicate]; omega, fun x hx => by rw [(List.mem_replicate.1 hx).2]; omega⟩
          clear hw ho2 hc2 hch2 k2 k3 hW3
          go_wp2_with fail
          generalize (Value.slice (some ⟨w2.heap.size, 0, none⟩) nn nn) = v3 at h3 ⊢
          generalize List.replicate nn (0 : Int) = l3 at h3 hw3
          obtain ⟨ca, cn, cc, cm, cs, hcb, hcm, hcn, hcB, hca⟩ := hc3
          obtain ⟨va, vc, rfl, _⟩ := h3.view
          obtain ⟨NL, hNL⟩ : ∃ NL, l3.length = NL := ⟨_, rfl⟩
          obtain ⟨P, hP⟩ : ∃ P : Nat, P = 281474976710656 := ⟨_, rfl⟩
          have HCA := Lib.hid hca
          clear hca
          rw [hNL] at h3 ⊢
          have HP := Lib.hid hP
          clear hP
          go_loopw [49] (fun _ wr => ∃ (l : List Int) (m : Nat) (s : Int), l.length = NL ∧ Wd l ∧ OI (w.heap.size + 1) wr (.slice va NL vc) l ∧ CurB wr w.heap.size ca cn cc (m : Int) s ∧ Kb τ cn m s ∧ Chg No w wr) (fun _ wr => rkM τ P cn wr w.heap.size)
          case atStart => exact ⟨l3, cm, cs, hNL, hw3, h3, hcb, .inl (by omega), hch3⟩
          case round =>
            obtain ⟨l, m, s, hl, hw, ho, hcb, hkb, hch⟩ := hrel
            have hsz := hcb.lt
            have hmk := hkb.le hcn
            have hrk := Lib.hid (rkM_at (τ := τ) (P := P) (n := cn) hcb)
            go_wp2_with fail
            refine (l11Sum_any No _ l _ ho.readNo hw.sum).mono ?_
            rintro e w' ⟨rfl, rfl⟩
            have hmany := hw.many
            obtain ⟨S, hS⟩ : ∃ S, sumW l = S := ⟨_, rfl⟩
            rw [hS] at hmany ⊢
            clear hS
            by_cases h10 : 10 < S
            · have hm2 := hmany h10
              have hm9 := hw.1
              clear hmany
              go_wp2_with fail
              refine (one_at w.heap.size ca cn cc m s 24 _ hcb (by omega) (by omega) (by omega) (by omega)).mono ?_
              rintro e w4 ⟨r, rfl, ⟨s1, hb1, hs1⟩, k4⟩
              have ho4 := ho.step k4 (fun q hq e => by have := (ho.lt q hq).1; omega)
              have hch4 : Chg No w w4 := hch.step k4 (fun q hq hl => by omega)
              cases hr : r
              · have HS1 := Lib.hid hs1
                clear hs1
                go_wp2_with fail
                refine (pick_at w.heap.size ca cn cc (m + 1) s1 (NL : Int) _ hb1 (by omega) (by omega) (by omega) (by omega)).mono ?_
                rintro e w5 ⟨x, rfl, hx0, hx1, ⟨s2, hb2, hs2⟩, k5⟩
                have HS2 := Lib.hid hs2
                clear hs2
                have ho5 := ho4.step k5 (fun q hq e => by have := (ho4.lt q hq).1; omega)
                have hch5 : Chg No w w5 := hch4.step k5 (fun q hq hl => by omega)
                obtain ⟨q, rfl⟩ : ∃ q : Nat, x = (q : Int) := ⟨x.toNat, by omega⟩
                obtain ⟨_, _, he, hv1, hv2, hview⟩ := ho5.view
                simp only [Value.slice.injEq] at he
                obtain ⟨rfl, he2, rfl⟩ := he
                clear he2
                obtain ⟨g, rfl, hg1, hg2, hcell, hfr⟩ := hview (by omega)
                have hcq := hcell q (by omega)
                have hfq := hfr q
                obtain ⟨o1, o2⟩ := ho5.store q 0
                have hb3 := hb2.step (B := w.heap.size + 1) o2 (fun q hq => by omega) (by omega) HCA.out
                have hrk2 := Lib.hid (rkM_at (τ := τ) (P := P) (n := cn) hb3)
                clear hcell hfr hview
                go_wp2_with fail
                go_round
                case rel => exact ⟨l.set q 0, m + 2, s2, by rw [List.length_set]; exact hl, hw.set q, o1, hb3, hkb.next hcn HT1.out HT2.out HS1.out (fun h => (HS2.out h).1) hr, hch5.step o2 (fun q hq hl => by omega)⟩
                case measure =>
                  rw [hrk.out, hrk2.out]
                  exact rkM_less (fun s => by have := HT1.out s; have := HP.out; omega) HT2.out HS1.out (fun h => (HS2.out h).1) hr
              · have hcT : Cur w4 w.heap.size (w.heap.size + 1) 562949954500000 := ⟨ca, cn, cc, m + 1, s1, hb1, by omega, hcn, hcB, HCA.out⟩
                have hoT := ho4
                have hchT := hch4
                clear hs1 hb1 hcb ho ho4
                have zT := hcT.lt
                go_wp2_with fail
                refine (policy_any w.heap.size (w.heap.size + 1) 562949954500000 _ hcT (by omega)).mono ?_
                rintro e w5 ⟨p, rfl, _, _, hc5, k5⟩
                have ho5 := hoT.step k5 (fun q hq e => by have := (hoT.lt q hq).1; omega)
                have hch5 : Chg No w w5 := hchT.step k5 (fun q hq hl => by omega)
                go_wp2_with fail
                refine (size4_any w.heap.size (w.heap.size + 1) _ _ hc5 (by omega)).mono ?_
                rintro e w6 ⟨k, rfl, _, _, hc6, k6⟩
                have ho6 := ho5.step k6 (fun q hq e => by have := (ho5.lt q hq).1; omega)
                have hch6 : Chg No w w6 := hch5.step k6 (fun q hq hl => by omega)
                have hz6 := hc6.lt
                have ka := (Chg.refl No w6).alloc (.cells #[.int .i64 0, .int .i64 1, .int .i64 2, .int .i64 3, .int .i64 4, .int .i64 5, .int .i64 (-1)] 3)
                have hr : ∀ n, n ≤ 7 → RI (fun q => q = w.heap.size) (w6.alloc (.cells #[.int .i64 0, .int .i64 1, .int .i64 2, .int .i64 3, .int .i64 4, .int .i64 5, .int .i64 (-1)] 3)) (.slice (some ⟨w6.heap.size, 0, none⟩) n 7) (([0, 1, 2, 3, 4, 5, -1] : List Int).take n) := fun n hn => RI.lit _ w6 [0, 1, 2, 3, 4, 5, -1] _ _ _ n 7 rfl rfl rfl hn (by omega) (by decide)
                have HR := Lib.hid hr
                clear hr
                go_wp2_with fail
                refine (pick_any w.heap.size (w.heap.size + 1) _ 16 _ (hc6.keep ka) (by omega) (by omega)).mono ?_
                rintro e w7 ⟨x, rfl, hx0, hx1, _, hc7, k7⟩
                have hx2 := hx1 (by omega)
                have ht := Int.tdiv_eq_ediv_of_nonneg (a := x) (b := 6) hx0
                obtain ⟨y, hy⟩ : ∃ y, x / 6 = y := ⟨_, rfl⟩
                have hy0 : 0 ≤ y := by omega
                have hy1 : y ≤ 2 := by omega
                rw [hy] at ht
                have hw1 : IntKind.i64.wrap y = y := IntWalk.i64_in _ (by omega)
                obtain ⟨m7, hm7⟩ : ∃ m : Nat, 5 + y = (m : Int) := ⟨(5 + y).toNat, by omega⟩
                have hw2 : IntKind.i64.wrap (5 + y) = (m7 : Int) := (IntWalk.i64_in _ (by omega)).trans hm7
                have hm70 : m7 ≤ 7 := by omega
                have hm71 : 1 ≤ m7 := by omega
                have hsl : ∀ w' : World, (Instr.slice 22 (.slice (some ⟨w6.heap.size, 0, none⟩) 7 7) none (some (.int .i64 (m7 : Int))) none).run Try.prog w' = .ok (.slice (some ⟨w6.heap.size, 0, none⟩) m7 7) w' := (fun w' => by rw [run_slice_h w' 22 _ 7 7 und_el .i64 _ (by omega) (by omega), run_sz]; simp [Result.andThen, sliced, Addr.add])
                clear hm7 hy
                go_wp2_with fail
                refine (among_any w.heap.size (w.heap.size + 1) _ _ (([0, 1, 2, 3, 4, 5, -1] : List Int).take m7) _ hc7 (by omega) ((HR.out m7 hm70).step k7 (fun _ h => h)) (by rw [List.length_take]; simp; omega) (by rw [List.length_take]; simp; omega)).mono ?_
                rintro e w8 ⟨L, rfl, _, hc8, k8⟩
                have ho7 := (ho6.keep ka).step k7 (fun q hq e => by have := (ho6.lt q hq).1; omega)
                have ho8 := ho7.step k8 (fun q hq e => by have := (ho7.lt q hq).1; omega)
                have hch8 : Chg No w w8 := ((hch6.keep ka).step k7 (fun q hq hl => by omega)).step k8 (fun q hq hl => by omega)
                clear hsl
                go_wp2_with fail
                refine bodyPost_ret (v := .tuple #[.int .i64 n, .int .i64 p, .int .i64 k, .slice va NL vc, .int .i64 L]) (by simp [results, Try.results11, go_sem]) rfl ?_
                exact ⟨⟨n, p, k, _, _, L, rfl, ho8.weak (by omega)⟩, hch8⟩
            · have hcT : Cur _ w.heap.size (w.heap.size + 1) 562949954500000 := ⟨ca, cn, cc, m, s, hcb, by omega, hcn, hcB, HCA.out⟩
              have hoT := ho
              have hchT := hch
              clear hcb ho
              have zT := hcT.lt
              go_wp2_with fail
              refine (policy_any w.heap.size (w.heap.size + 1) 562949954500000 _ hcT (by omega)).mono ?_
              rintro e w5 ⟨p, rfl, _, _, hc5, k5⟩
              have ho5 := hoT.step k5 (fun q hq e => by have := (hoT.lt q hq).1; omega)
              have hch5 : Chg No w w5 := hchT.step k5 (fun q hq hl => by omega)
              go_wp2_with fail
              refine (size4_any w.heap.size (w.heap.size + 1) _ _ hc5 (by omega)).mono ?_
              rintro e w6 ⟨k, rfl, _, _, hc6, k6⟩
              have ho6 := ho5.step k6 (fun q hq e => by have := (ho5.lt q hq).1; omega)
              have hch6 : Chg No w w6 := hch5.step k6 (fun q hq hl => by omega)
              have hz6 := hc6.lt
              have ka := (Chg.refl No w6).alloc (.cells #[.int .i64 0, .int .i64 1, .int .i64 2, .int .i64 3, .int .i64 4, .int .i64 5, .int .i64 (-1)] 3)
              have hr : ∀ n, n ≤ 7 → RI (fun q => q = w.heap.size) (w6.alloc (.cells #[.int .i64 0, .int .i64 1, .int .i64 2, .int .i64 3, .int .i64 4, .int .i64 5, .int .i64 (-1)] 3)) (.slice (some ⟨w6.heap.size, 0, none⟩) n 7) (([0, 1, 2, 3, 4, 5, -1] : List Int).take n) := fun n hn => RI.lit _ w6 [0, 1, 2, 3, 4, 5, -1] _ _ _ n 7 rfl rfl rfl hn (by omega) (by decide)
              have HR := Lib.hid hr
              clear hr
              go_wp2_with fail
              refine (pick_any w.heap.size (w.heap.size + 1) _ 16 _ (hc6.keep ka) (by omega) (by omega)).mono ?_
              rintro e w7 ⟨x, rfl, hx0, hx1, _, hc7, k7⟩
              have hx2 := hx1 (by omega)
              have ht := Int.tdiv_eq_ediv_of_nonneg (a := x) (b := 6) hx0
              obtain ⟨y, hy⟩ : ∃ y, x / 6 = y := ⟨_, rfl⟩
              have hy0 : 0 ≤ y := by omega
              have hy1 : y ≤ 2 := by omega
              rw [hy] at ht
              have hw1 : IntKind.i64.wrap y = y := IntWalk.i64_in _ (by omega)
              obtain ⟨m7, hm7⟩ : ∃ m : Nat, 5 + y = (m : Int) := ⟨(5 + y).toNat, by omega⟩
              have hw2 : IntKind.i64.wrap (5 + y) = (m7 : Int) := (IntWalk.i64_in _ (by omega)).trans hm7
              have hm70 : m7 ≤ 7 := by omega
              have hm71 : 1 ≤ m7 := by omega
              have hsl : ∀ w' : World, (Instr.slice 22 (.slice (some ⟨w6.heap.size, 0, none⟩) 7 7) none (some (.int .i64 (m7 : Int))) none).run Try.prog w' = .ok (.slice (some ⟨w6.heap.size, 0, none⟩) m7 7) w' := (fun w' => by rw [run_slice_h w' 22 _ 7 7 und_el .i64 _ (by omega) (by omega), run_sz]; simp [Result.andThen, sliced, Addr.add])
              clear hm7 hy
              go_wp2_with fail
              refine (among_any w.heap.size (w.heap.size + 1) _ _ (([0, 1, 2, 3, 4, 5, -1] : List Int).take m7) _ hc7 (by omega) ((HR.out m7 hm70).step k7 (fun _ h => h)) (by rw [List.length_take]; simp; omega) (by rw [List.length_take]; simp; omega)).mono ?_
              rintro e w8 ⟨L, rfl, _, hc8, k8⟩
              have ho7 := (ho6.keep ka).step k7 (fun q hq e => by have := (ho6.lt q hq).1; omega)
              have ho8 := ho7.step k8 (fun q hq e => by have := (ho7.lt q hq).1; omega)
              have hch8 : Chg No w w8 := ((hch6.keep ka).step k7 (fun q hq hl => by omega)).step k8 (fun q hq hl => by omega)
              clear hsl
              go_wp2_with fail
              refine bodyPost_ret (v := .tuple #[.int .i64 n, .int .i64 p, .int .i64 k, .slice va NL vc, .int .i64 L]) (by simp [results, Try.results11, go_sem]) rfl ?_
              exact ⟨⟨n, p, k, _, _, L, rfl, ho8.weak (by omega)⟩, hch8⟩
        · have e0 : (x == 0) = false := by rw [beq_eq_false_iff_ne]; exact hx0
          have e1 : (x == 1) = false := by rw [beq_eq_false_iff_ne]; exact hx1
          clear hx0 hx1
          go_wp2_with fail
          have hc3 := hc2
          have hch3 := hch2
          have h3 := ho2
          have hw3 := hw
          clear hw ho2 hc2 hch2 k2
          generalize Value.slice oa l.length oc = v3 at h3 ⊢
          generalize l = l3 at h3 hw3
          obtain ⟨ca, cn, cc, cm, cs, hcb, hcm, hcn, hcB, hca⟩ := hc3
          obtain ⟨va, vc, rfl, _⟩ := h3.view
          obtain ⟨NL, hNL⟩ : ∃ NL, l3.length = NL := ⟨_, rfl⟩
          obtain ⟨P, hP⟩ : ∃ P : Nat, P = 281474976710656 := ⟨_, rfl⟩
          have HCA := Lib.hid hca
          clear hca
          rw [hNL] at h3 ⊢
          have HP := Lib.hid hP
          clear hP
          go_loopw [49] (fun _ wr => ∃ (l : List Int) (m : Nat) (s : Int), l.length = NL ∧ Wd l ∧ OI (w.heap.size + 1) wr (.slice va NL vc) l ∧ CurB wr w.heap.size ca cn cc (m : Int) s ∧ Kb τ cn m s ∧ Chg No w wr) (fun _ wr => rkM τ P cn wr w.heap.size)
          case atStart => exact ⟨l3, cm, cs, hNL, hw3, h3, hcb, .inl (by omega), hch3⟩
          case round =>
            obtain ⟨l, m, s, hl, hw, ho, hcb, hkb, hch⟩ := hrel
            have hsz := hcb.lt
            have hmk := hkb.le hcn
            have hrk := Lib.hid (rkM_at (τ := τ) (P := P) (n := cn) hcb)
            go_wp2_with fail
            refine (l11Sum_any No _ l _ ho.readNo hw.sum).mono ?_
            rintro e w' ⟨rfl, rfl⟩
            have hmany := hw.many
            obtain ⟨S, hS⟩ : ∃ S, sumW l = S := ⟨_, rfl⟩
            rw [hS] at hmany ⊢
            clear hS
            by_cases h10 : 10 < S
            · have hm2 := hmany h10
              have hm9 := hw.1
              clear hmany
              go_wp2_with fail
              refine (one_at w.heap.size ca cn cc m s 24 _ hcb (by omega) (by omega) (by omega) (by omega)).mono ?_
              rintro e w4 ⟨r, rfl, ⟨s1, hb1, hs1⟩, k4⟩
              have ho4 := ho.step k4 (fun q hq e => by have := (ho.lt q hq).1; omega)
              have hch4 : Chg No w w4 := hch.step k4 (fun q hq hl => by omega)
              cases hr : r
              · have HS1 := Lib.hid hs1
                clear hs1
                go_wp2_with fail
                refine (pick_at w.heap.size ca cn cc (m + 1) s1 (NL : Int) _ hb1 (by omega) (by omega) (by omega) (by omega)).mono ?_
                rintro e w5 ⟨x, rfl, hx0, hx1, ⟨s2, hb2, hs2⟩, k5⟩
                have HS2 := Lib.hid hs2
                clear hs2
                have ho5 := ho4.step k5 (fun q hq e => by have := (ho4.lt q hq).1; omega)
                have hch5 : Chg No w w5 := hch4.step k5 (fun q hq hl => by omega)
                obtain ⟨q, rfl⟩ : ∃ q : Nat, x = (q : Int) := ⟨x.toNat, by omega⟩
                obtain ⟨_, _, he, hv1, hv2, hview⟩ := ho5.view
                simp only [Value.slice.injEq] at he
                obtain ⟨rfl, he2, rfl⟩ := he
                clear he2
                obtain ⟨g, rfl, hg1, hg2, hcell, hfr⟩ := hview (by omega)
                have hcq := hcell q (by omega)
                have hfq := hfr q
                obtain ⟨o1, o2⟩ := ho5.store q 0
                have hb3 := hb2.step (B := w.heap.size + 1) o2 (fun q hq => by omega) (by omega) HCA.out
                have hrk2 := Lib.hid (rkM_at (τ := τ) (P := P) (n := cn) hb3)
                clear hcell hfr hview
                go_wp2_with fail
                go_round
                case rel => exact ⟨l.set q 0, m + 2, s2, by rw [List.length_set]; exact hl, hw.set q, o1, hb3, hkb.next hcn HT1.out HT2.out HS1.out (fun h => (HS2.out h).1) hr, hch5.step o2 (fun q hq hl => by omega)⟩
                case measure =>
                  rw [hrk.out, hrk2.out]
                  exact rkM_less (fun s => by have := HT1.out s; have := HP.out; omega) HT2.out HS1.out (fun h => (HS2.out h).1) hr
              · have hcT : Cur w4 w.heap.size (w.heap.size + 1) 562949954500000 := ⟨ca, cn, cc, m + 1, s1, hb1, by omega, hcn, hcB, HCA.out⟩
                have hoT := ho4
                have hchT := hch4
                clear hs1 hb1 hcb ho ho4
                have zT := hcT.lt
                go_wp2_with fail
                refine (policy_any w.heap.size (w.heap.size + 1) 562949954500000 _ hcT (by omega)).mono ?_
                rintro e w5 ⟨p, rfl, _, _, hc5, k5⟩
                have ho5 := hoT.step k5 (fun q hq e => by have := (hoT.lt q hq).1; omega)
                have hch5 : Chg No w w5 := hchT.step k5 (fun q hq hl => by omega)
                go_wp2_with fail
                refine (size4_any w.heap.size (w.heap.size + 1) _ _ hc5 (by omega)).mono ?_
                rintro e w6 ⟨k, rfl, _, _, hc6, k6⟩
                have ho6 := ho5.step k6 (fun q hq e => by have := (ho5.lt q hq).1; omega)
                have hch6 : Chg No w w6 := hch5.step k6 (fun q hq hl => by omega)
                have hz6 := hc6.lt
                have ka := (Chg.refl No w6).alloc (.cells #[.int .i64 0, .int .i64 1, .int .i64 2, .int .i64 3, .int .i64 4, .int .i64 5, .int .i64 (-1)] 3)
                have hr : ∀ n, n ≤ 7 → RI (fun q => q = w.heap.size) (w6.alloc (.cells #[.int .i64 0, .int .i64 1, .int .i64 2, .int .i64 3, .int .i64 4, .int .i64 5, .int .i64 (-1)] 3)) (.slice (some ⟨w6.heap.size, 0, none⟩) n 7) (([0, 1, 2, 3, 4, 5, -1] : List Int).take n) := fun n hn => RI.lit _ w6 [0, 1, 2, 3, 4, 5, -1] _ _ _ n 7 rfl rfl rfl hn (by omega) (by decide)
                have HR := Lib.hid hr
                clear hr
                go_wp2_with fail
                refine (pick_any w.heap.size (w.heap.size + 1) _ 16 _ (hc6.keep ka) (by omega) (by omega)).mono ?_
                rintro e w7 ⟨x, rfl, hx0, hx1, _, hc7, k7⟩
                have hx2 := hx1 (by omega)
                have ht := Int.tdiv_eq_ediv_of_nonneg (a := x) (b := 6) hx0
                obtain ⟨y, hy⟩ : ∃ y, x / 6 = y := ⟨_, rfl⟩
                have hy0 : 0 ≤ y := by omega
                have hy1 : y ≤ 2 := by omega
                rw [hy] at ht
                have hw1 : IntKind.i64.wrap y = y := IntWalk.i64_in _ (by omega)
                obtain ⟨m7, hm7⟩ : ∃ m : Nat, 5 + y = (m : Int) := ⟨(5 + y).toNat, by omega⟩
                have hw2 : IntKind.i64.wrap (5 + y) = (m7 : Int) := (IntWalk.i64_in _ (by omega)).trans hm7
                have hm70 : m7 ≤ 7 := by omega
                have hm71 : 1 ≤ m7 := by omega
                have hsl : ∀ w' : World, (Instr.slice 22 (.slice (some ⟨w6.heap.size, 0, none⟩) 7 7) none (some (.int .i64 (m7 : Int))) none).run Try.prog w' = .ok (.slice (some ⟨w6.heap.size, 0, none⟩) m7 7) w' := (fun w' => by rw [run_slice_h w' 22 _ 7 7 und_el .i64 _ (by omega) (by omega), run_sz]; simp [Result.andThen, sliced, Addr.add])
                clear hm7 hy
                go_wp2_with fail
                refine (among_any w.heap.size (w.heap.size + 1) _ _ (([0, 1, 2, 3, 4, 5, -1] : List Int).take m7) _ hc7 (by omega) ((HR.out m7 hm70).step k7 (fun _ h => h)) (by rw [List.length_take]; simp; omega) (by rw [List.length_take]; simp; omega)).mono ?_
                rintro e w8 ⟨L, rfl, _, hc8, k8⟩
                have ho7 := (ho6.keep ka).step k7 (fun q hq e => by have := (ho6.lt q hq).1; omega)
                have ho8 := ho7.step k8 (fun q hq e => by have := (ho7.lt q hq).1; omega)
                have hch8 : Chg No w w8 := ((hch6.keep ka).step k7 (fun q hq hl => by omega)).step k8 (fun q hq hl => by omega)
                clear hsl
                go_wp2_with fail
                refine bodyPost_ret (v := .tuple #[.int .i64 n, .int .i64 p, .int .i64 k, .slice va NL vc, .int .i64 L]) (by simp [results, Try.results11, go_sem]) rfl ?_
                exact ⟨⟨n, p, k, _, _, L, rfl, ho8.weak (by omega)⟩, hch8⟩
            · have hcT : Cur _ w.heap.size (w.heap.size + 1) 562949954500000 := ⟨ca, cn, cc, m, s, hcb, by omega, hcn, hcB, HCA.out⟩
              have hoT := ho
              have hchT := hch
              clear hcb ho
              have zT := hcT.lt
              go_wp2_with fail
              refine (policy_any w.heap.size (w.heap.size + 1) 562949954500000 _ hcT (by omega)).mono ?_
              rintro e w5 ⟨p, rfl, _, _, hc5, k5⟩
              have ho5 := hoT.step k5 (fun q hq e => by have := (hoT.lt q hq).1; omega)
              have hch5 : Chg No w w5 := hchT.step k5 (fun q hq hl => by omega)
              go_wp2_with fail
              refine (size4_any w.heap.size (w.heap.size + 1) _ _ hc5 (by omega)).mono ?_
              rintro e w6 ⟨k, rfl, _, _, hc6, k6⟩
              have ho6 := ho5.step k6 (fun q hq e => by have := (ho5.lt q hq).1; omega)
              have hch6 : Chg No w w6 := hch5.step k6 (fun q hq hl => by omega)
              have hz6 := hc6.lt
              have ka := (Chg.refl No w6).alloc (.cells #[.int .i64 0, .int .i64 1, .int .i64 2, .int .i64 3, .int .i64 4, .int .i64 5, .int .i64 (-1)] 3)
              have hr : ∀ n, n ≤ 7 → RI (fun q => q = w.heap.size) (w6.alloc (.cells #[.int .i64 0, .int .i64 1, .int .i64 2, .int .i64 3, .int .i64 4, .int .i64 5, .int .i64 (-1)] 3)) (.slice (some ⟨w6.heap.size, 0, none⟩) n 7) (([0, 1, 2, 3, 4, 5, -1] : List Int).take n) := fun n hn => RI.lit _ w6 [0, 1, 2, 3, 4, 5, -1] _ _ _ n 7 rfl rfl rfl hn (by omega) (by decide)
              have HR := Lib.hid hr
              clear hr
              go_wp2_with fail
              refine (pick_any w.heap.size (w.heap.size + 1) _ 16 _ (hc6.keep ka) (by omega) (by omega)).mono ?_
              rintro e w7 ⟨x, rfl, hx0, hx1, _, hc7, k7⟩
              have hx2 := hx1 (by omega)
              have ht := Int.tdiv_eq_ediv_of_nonneg (a := x) (b := 6) hx0
              obtain ⟨y, hy⟩ : ∃ y, x / 6 = y := ⟨_, rfl⟩
              have hy0 : 0 ≤ y := by omega
              have hy1 : y ≤ 2 := by omega
              rw [hy] at ht
              have hw1 : IntKind.i64.wrap y = y := IntWalk.i64_in _ (by omega)
              obtain ⟨m7, hm7⟩ : ∃ m : Nat, 5 + y = (m : Int) := ⟨(5 + y).toNat, by omega⟩
              have hw2 : IntKind.i64.wrap (5 + y) = (m7 : Int) := (IntWalk.i64_in _ (by omega)).trans hm7
              have hm70 : m7 ≤ 7 := by omega
              have hm71 : 1 ≤ m7 := by omega
              have hsl : ∀ w' : World, (Instr.slice 22 (.slice (some ⟨w6.heap.size, 0, none⟩) 7 7) none (some (.int .i64 (m7 : Int))) none).run Try.prog w' = .ok (.slice (some ⟨w6.heap.size, 0, none⟩) m7 7) w' := (fun w' => by rw [run_slice_h w' 22 _ 7 7 und_el .i64 _ (by omega) (by omega), run_sz]; simp [Result.andThen, sliced, Addr.add])
              clear hm7 hy
              go_wp2_with fail
              refine (among_any w.heap.size (w.heap.size + 1) _ _ (([0, 1, 2, 3, 4, 5, -1] : List Int).take m7) _ hc7 (by omega) ((HR.out m7 hm70).step k7 (fun _ h => h)) (by rw [List.length_take]; simp; omega) (by rw [List.length_take]; simp; omega)).mono ?_
              rintro e w8 ⟨L, rfl, _, hc8, k8⟩
              have ho7 := (ho6.keep ka).step k7 (fun q hq e => by have := (ho6.lt q hq).1; omega)
              have ho8 := ho7.step k8 (fun q hq e => by have := (ho7.lt q hq).1; omega)
              have hch8 : Chg No w w8 := ((hch6.keep ka).step k7 (fun q hq hl => by omega)).step k8 (fun q hq hl => by omega)
              clear hsl
              go_wp2_with fail
              refine bodyPost_ret (v := .tuple #[.int .i64 n, .int .i64 p, .int .i64 k, .slice va NL vc, .int .i64 L]) (by simp [results, Try.results11, go_sem]) rfl ?_
              exact ⟨⟨n, p, k, _, _, L, rfl, ho8.weak (by omega)⟩, hch8⟩
end Go.Proofs.Ytampibdnnbekjaa
