import Derived.Test.YtmdcmfnpfkfocaaVo
import Derived.Test.YtmdcmfnpfkfocaaCr
/- the law of VictimsOf returns true -/
namespace Go.Proofs.Ytmdcmfnpfkfocaa
open Go.RowKit

theorem RC.since {A : Nat → Prop} {w : World} {v : Value} {c : Ca} (h : RC A w v c) : RC (fun q => w.heap.size ≤ q) w v c := by
  obtain ⟨pv, mv, rfl, h1, h2⟩ := h
  exact ⟨pv, mv, rfl, h1.to (Chg.refl No w) (fun _ e => e.elim) (fun q hq => .inr hq), h2.to (Chg.refl No w) (fun _ e => e.elim) (fun q hq => .inr hq)⟩
theorem victV_len {n : Int} {c : Ca} {x : Int} : (victV n c x).length ≤ 6 := by
  unfold victV
  split
  · rename_i h
    have hg : goodC n c = true := by simp only [okB, Bool.and_eq_true] at h; exact h.1
    have ho := goodC_ok hg
    have h1 := ho.size
    have h2 := ho.len
    unfold victL
    split
    · simp
    · split
      · have := diffL_len_le c.pages; omega
      · simp
  · simp
theorem box1 {w : World} {t : TypeId} {x0 x1 x2 x3 x4 : Value} {R : World → Prop} (h : ∀ W, Chg No w W → Box W w.heap.size x0 x1 x2 x3 x4 → R W) : R (w.alloc (.cells #[x0, x1, x2, x3, x4] t)) :=
  h _ ((Chg.refl No w).alloc _) (Box.new w x0 x1 x2 x3 x4 t)
theorem szC_fit {n m : Nat} (h : n + m ≤ 1048576) : szC n m 1048576 = 1048576 - n - m := by unfold szC; rw [if_pos (by omega)]

set_option maxRecDepth 100000 in
set_option maxHeartbeats 4000000 in
theorem lawVictimsOf_any (n x : Int) (v : Value) (c : Ca) (w : World) (hv : RC No w v c) (hl : c.pages.length + c.marks.length ≤ 1048576) :
    Calls Try.prog 3 #[.int .i64 n, v, .int .i64 x] w fun e w' => e = .returned (.bool true) ∧ Chg No w w' := by
  have hs := hv.since
  obtain ⟨pv, mv, rfl, hp, hmk⟩ := id hv
  obtain ⟨pa, pc, rfl, _, _, hpl, _⟩ := id hp
  obtain ⟨ma, mc, rfl, _, _, hml, _⟩ := id hmk
  have k0 := (Chg.refl No w).alloc (.cells #[.int .i64 c.pol, .int .i64 c.size, .slice pa c.pages.length pc, .slice ma c.marks.length mc, .int .i64 c.hand] 24)
  have bx := Box.new w (.int .i64 c.pol) (.int .i64 c.size) (.slice pa c.pages.length pc) (.slice ma c.marks.length mc) (.int .i64 c.hand) 24
  have hz := szC_fit hl
  have hzn : ¬ (szC c.pages.length c.marks.length 1048576 < 0) := by omega
  have hz0 : (0 : Int) ≤ (c.pages.length : Int) := Int.natCast_nonneg _
  have hz1 : (0 : Int) ≤ (c.marks.length : Int) := Int.natCast_nonneg _
  have HK1 : Hid ((0 : Int) ≤ 1 ∧ 1 + (c.pages.length : Int) ≤ 100000000) := Lib.hid (by omega)
  have hkn : ¬ (1 + (c.pages.length : Int) + (c.marks.length : Int) < 0) := by omega
  have hp1 : c.pages.length ≤ 9223372036854775807 := by omega
  have hm1 : c.marks.length ≤ 9223372036854775807 := by omega
  clear hz hl hpl hml hz0 hz1
  obtain ⟨r, hr⟩ : ∃ r, victV n c x = r := ⟨_, rfl⟩
  have hrt : r.length ≤ 6 := hr ▸ victV_len
  have HR := Lib.hid hr
  clear hr
  have hr0 : (0 : Int) ≤ (r.length : Int) := Int.natCast_nonneg _
  have hrn : ¬ (1 + (r.length : Int) < 0) := by omega
  go_enter Try.func3, Try.ntmps3
  go_wp2_with fail
  refine (szCache_any _ _ _ _ _ _ _ _ _ _ _ hp1 hm1 (by omega) (by omega)).mono ?_
  rintro e w0 ⟨_, rfl, rfl, k0'⟩
  have k0 := k0.keep k0'
  have bx := bx.keep k0'
  obtain ⟨c0, c1, c2, c3, c4, fr⟩ := id bx
  go_wp2_with fail
  refine (toCache_any No _ c _ (hv.keep k0)).mono ?_
  rintro e w1 ⟨t1, rfl, o1, k1⟩
  have b1 := k1.size
  go_wp2_with fail
  refine (specVictimsOf_any No n x t1 c w1 o1.readNo).mono ?_
  rintro e w2 ⟨v0, vb, rfl, rfl, ow, k2⟩
  rw [HR.out] at ow
  have kk := (k0.keep k1).keep k2
  have bx := (bx.keep k1).keep k2
  have hN := bx.lt
  clear c0 c1 c2 c3 c4 fr
  obtain ⟨c0, c1, c2, c3, c4, fr⟩ := id bx
  go_wp2_with fail
  refine (toCache_any No _ c _ (hv.keep kk)).mono ?_
  rintro e w3 ⟨x3, rfl, ox, k3⟩
  obtain ⟨xp, xm, rfl, hxp, hxm, _⟩ := id ox
  obtain ⟨xa, xn, xc, rfl⟩ := hxp.shape
  obtain ⟨ya, yn, yc, rfl⟩ := hxm.shape
  go_wp2_with fail
  refine box1 (R := fun W => Calls _ _ _ W _) (fun W3 kW bxx => ?_)
  have hz1 := kk.size
  have hz3 := k3.size
  have hzW := bxx.lt
  have kk := (kk.keep k3).keep kW
  have bx := (bx.keep k3).keep kW
  have ow0 := ow.lt
  have ow := (ow.keep k3).keep kW
  have ox0 := ox.lt
  have ox := ox.keep kW
  clear c0 c1 c2 c3 c4 fr
  refine (implVictimsOf_any No n x _ c W3 ox.readNo).mono ?_
  rintro e w4 ⟨g0, gb, rfl, rfl, og, k4⟩
  rw [HR.out] at og
  have kk := kk.keep k4
  have bx := bx.keep k4
  have bxx := bxx.keep k4
  have ow := ow.keep k4
  have ox := ox.keep k4
  have dvx : ∀ q, own v0 q → ¬ ownC (.agg #[.int .i64 c.pol, .int .i64 c.size, .slice xa xn xc, .slice ya yn yc, .int .i64 c.hand]) q := fun q h1 h2 => by have := (ow0 q h1).2; have := (ox0 q h2).1; omega
  have dgx : ∀ q, own g0 q → ¬ ownC (.agg #[.int .i64 c.pol, .int .i64 c.size, .slice xa xn xc, .slice ya yn yc, .int .i64 c.hand]) q := fun q h1 h2 => by have := (og.lt q h1).1; have := (ox0 q h2).2; omega
  have dgv : ∀ q, own g0 q → ¬ own v0 q := fun q h1 h2 => by have := (og.lt q h1).1; have := (ow0 q h2).2; omega
  have hx0 : ∀ q, ownC (.agg #[.int .i64 c.pol, .int .i64 c.size, .slice xa xn xc, .slice ya yn yc, .int .i64 c.hand]) q → w.heap.size < q := fun q h1 => by have := (ox0 q h1).1; omega
  have hg0 : ∀ q, own g0 q → w.heap.size < q := fun q h1 => by have := (og.lt q h1).1; omega
  have hxx : ¬ ownC (.agg #[.int .i64 c.pol, .int .i64 c.size, .slice xa xn xc, .slice ya yn yc, .int .i64 c.hand]) w3.heap.size := fun h1 => by have := (ox0 _ h1).2; omega
  have DVX := Lib.hid dvx
  have DGX := Lib.hid dgx
  have DGV := Lib.hid dgv
  have HX0 := Lib.hid hx0
  have HG0 := Lib.hid hg0
  have HXX := Lib.hid hxx
  clear dvx dgx dgv hx0 hg0 hxx ow0 ox0 hz1 hz3 hzW hN
  go_wp2_with fail
  refine (eqIntS_same No No g0 v0 r w4 og.readNo ow.readNo).mono ?_
  rintro e w5 ⟨_, rfl, rfl, k5⟩
  have kk := kk.keep k5
  have bx := bx.keep k5
  have bxx := bxx.keep k5
  have ow := ow.keep k5
  have ox := ox.keep k5
  have og := og.keep k5
  go_wp2_with fail
  -- REGION: the argument is as it was
  refine wp_region_K (S := fun W => Box W w3.heap.size (.int .i64 c.pol) (.int .i64 c.size) (.slice xa xn xc) (.slice ya yn yc) (.int .i64 c.hand)) (k := 3) (by kernel_rfl) ?_
  have hd := (Chg.refl No w5).drew
  have kk := kk.keep hd
  have bx := bx.keep hd
  have bxx := bxx.keep hd
  have ow := ow.keep hd
  have ox := ox.keep hd
  have og := og.keep hd
  generalize w5.drew = W5 at kk bx bxx ow ox og ⊢
  clear hd
  refine wpAnyK_take 0 (.agg #[.int .i64 c.pol, .int .i64 c.size, .slice xa xn xc, .slice ya yn yc, .int .i64 c.hand]) rfl (by kernel_rfl) (fun _ _ _ h => h) bxx rfl (by rintro w ⟨c0, c1, c2, c3, c4, fr⟩; go_simp) ?_
  simp only [List.getElem_toArray, List.getElem_cons_zero, Act.put, List.setIfInBounds_toArray, List.set_cons_zero, List.set_cons_succ]
  refine wpAnyK_1 1 (by kernel_rfl) (wpOpK' rfl rfl ?_)
  intro K hK
  obtain ⟨c0, c1, c2, c3, c4, fr⟩ := id bx
  unfold Oper.wp execOp
  go_simp
  refine hK.out _ _ bxx ?_
  clear hK K c0 c1 c2 c3 c4 fr
  simp only [List.setIfInBounds_toArray]
  refine wpAnyK_1 2 (by kernel_rfl) (wpOpK' rfl rfl ?_)
  intro K hK
  refine ocall (f := 11) (args := #[.agg #[.int .i64 c.pol, .int .i64 c.size, .slice pa c.pages.length pc, .slice ma c.marks.length mc, .int .i64 c.hand]]) (by go_simp) (toCache_any No _ c W5 (hv.keep kk)) (fun v6 w6 h6 => hK.out _ _ (bxx.keep h6.2) ?_)
  obtain ⟨o6, k6⟩ := h6
  clear hK K
  simp only [List.getElem_toArray, List.getElem_cons_succ, List.getElem_cons_zero, Act.put, List.setIfInBounds_toArray, List.set_cons_zero, List.set_cons_succ]
  have kk := kk.keep k6
  have bx := bx.keep k6
  have ow := ow.keep k6
  have og := og.keep k6
  have bxx := bxx.keep k6
  have ox := ox.keep k6
  refine wpAnyK_tail 3 rfl (by kernel_rfl) ?_
  simp only [List.drop_succ_cons, List.drop_zero]
  go_wp2_with fail
  refine (eqCache_same No No _ _ c w6 ox.readNo o6.readNo).mono ?_
  rintro e w7 ⟨_, rfl, rfl, k7⟩
  have kk := kk.keep k7
  have bx := bx.keep k7
  have bxx := bxx.keep k7
  have ow := ow.keep k7
  have ox := ox.keep k7
  have og := og.keep k7
  obtain ⟨d0, d1, d2, d3, d4, dr⟩ := id bxx
  go_wp2_with fail
  refine (markCache_any _ _ c 1 w7 ox HK1.out).mono ?_
  rintro e w8 ⟨_, rfl, rfl, ox8, k8⟩
  clear d0 d1 d2 d3 d4 dr bxx ox
  have ow := ow.step k8 DVX.out
  have og := og.step k8 DGX.out
  have bx := bx.step k8 (fun hq => by have := HX0.out _ hq; omega)
  have kk := kk.step k8 (fun q hq hl => by have := HX0.out q hq; omega)
  go_wp2_with fail
  refine (eqIntS_same No No g0 v0 r w8 og.readNo ow.readNo).mono ?_
  rintro e w9 ⟨_, rfl, rfl, k9⟩
  have kk := kk.keep k9
  have bx := bx.keep k9
  have ow := ow.keep k9
  have og := og.keep k9
  go_wp2_with fail
  refine (markIntS_any _ g0 r 1 w9 og (by omega)).mono ?_
  rintro e w10 ⟨_, rfl, rfl, og10, k10⟩
  have ow := ow.step k10 (fun q h1 h2 => DGV.out q h2 h1)
  have bx := bx.step k10 (fun hq => by have := HG0.out _ hq; omega)
  have kk := kk.step k10 (fun q hq hl => by have := HG0.out q hq; omega)
  clear og
  obtain ⟨c0, c1, c2, c3, c4, fr⟩ := id bx
  go_wp2_with fail
  refine (heldIntS_any No g0 r.length 1 w10 og10.readNo (by omega)).mono ?_
  rintro e w11 ⟨rfl, rfl⟩
  go_wp2_with fail
  refine (toCache_any No _ c _ (hv.keep kk)).mono ?_
  rintro e w12 ⟨t3, rfl, o3, k12⟩
  have kk := kk.keep k12
  have ow := ow.keep k12
  have og10 := og10.keep k12
  go_wp2_with fail
  refine (implVictimsOf_any No n x t3 c w12 o3.readNo).mono ?_
  rintro e w13 ⟨h0, hb, rfl, rfl, oh, k13⟩
  rw [HR.out] at oh
  have kk := kk.keep k13
  have ow := ow.keep k13
  have og10 := og10.keep k13
  go_wp2_with fail
  refine (eqIntS_same No No h0 v0 r w13 oh.readNo ow.readNo).mono ?_
  rintro e w14 ⟨_, rfl, rfl, k14⟩
  have kk := kk.keep k14
  have og10 := og10.keep k14
  go_wp2_with fail
  refine (heldIntS_any No g0 r.length 1 w14 og10.readNo (by omega)).mono ?_
  rintro e w15 ⟨rfl, rfl⟩
  go_wp2_with fail
  go_ret
  exact ⟨rfl, kk⟩

theorem szC_no {n m : Nat} (h : ¬ n + m ≤ 1048576) : szC n m 1048576 = -1 := by unfold szC; rw [if_neg (by omega)]
set_option maxRecDepth 100000 in
set_option maxHeartbeats 1000000 in
theorem lawVictimsOf_all (n p k hd x : Int) (a a' : Option Addr) (m q m' q' : Nat) (w : World) (hm : m ≤ 9223372036854775807) (hm' : m' ≤ 9223372036854775807)
    (h : m ≤ 17592186044416 → ∃ l : List Int, l.length = m ∧ RI No w (.slice a m q) l) (h' : m' ≤ 17592186044416 → ∃ l : List Int, l.length = m' ∧ RI No w (.slice a' m' q') l) :
    Calls Try.prog 3 #[.int .i64 n, .agg #[.int .i64 p, .int .i64 k, .slice a m q, .slice a' m' q', .int .i64 hd], .int .i64 x] w fun e w' => e = .returned (.bool true) ∧ Chg No w w' := by
  by_cases hl : m + m' ≤ 1048576
  · obtain ⟨l, rfl, hr⟩ := h (by omega)
    obtain ⟨l', rfl, hr'⟩ := h' (by omega)
    exact lawVictimsOf_any n x _ ⟨p, k, l, l', hd⟩ w ⟨_, _, rfl, hr, hr'⟩ hl
  · have hz := szC_no hl
    clear hl h h'
    have k0 := (Chg.refl No w).alloc (.cells #[.int .i64 p, .int .i64 k, .slice a m q, .slice a' m' q', .int .i64 hd] 24)
    go_enter Try.func3, Try.ntmps3
    go_wp2_with fail
    refine (szCache_any _ _ _ _ _ _ _ _ _ _ _ hm hm' (by omega) (by omega)).mono ?_
    rintro e w0 ⟨_, rfl, rfl, k0'⟩
    rw [hz]
    go_wp2_with fail
    go_ret
    exact ⟨rfl, k0.keep k0'⟩
end Go.Proofs.Ytmdcmfnpfkfocaa
