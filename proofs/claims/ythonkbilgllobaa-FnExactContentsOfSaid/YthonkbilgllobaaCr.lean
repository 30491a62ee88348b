import Derived.Test.YthonkbilgllobaaCq
/- the law of ContentsOf returns true -/
namespace Go.Proofs.Ythonkbilgllobaa
open Go.RowKit

/-- blocks made since -/
def Since (w : World) : Nat → Prop := fun q => w.heap.size ≤ q
theorem RI.since {A : Nat → Prop} {w : World} {v : Value} {l : List Int} (h : RI A w v l) : RI (Since w) w v l := h.to (Chg.refl No w) (fun _ e => e.elim) (fun _ hq => .inr hq)

set_option maxRecDepth 100000 in
set_option maxHeartbeats 4000000 in
theorem lawContentsOf_any (n p k : Int) (v : Value) (l : List Int) (w : World) (hv : RI No w v l) (hl : l.length ≤ 1048576) :
    Calls Try.prog 3 #[.int .i64 n, .int .i64 p, .int .i64 k, v] w fun e w' => e = .returned (.bool true) ∧ Chg No w w' := by
  have hs := hv.since
  obtain ⟨a, c, rfl, _⟩ := id hv
  have hle : ¬ (1048576 : Int) < (l.length : Int) := by omega
  obtain ⟨r, hr⟩ : ∃ r, (if askedB n p k l then pagesTo (newC p k) l l.length else []) = r := ⟨_, rfl⟩
  have hrt : tot r ≤ 400 := by
    rw [← hr]
    cases hh : askedB n p k l
    · simp [tot]
    · have := pagesTo_tot (askedB_ok hh) l l.length
      simp only [askedB, Bool.and_eq_true, decide_eq_true_eq] at hh
      simp only [if_true]
      omega
  have HR := Lib.hid hr
  clear hr
  have hrt1 : (1 : Int) + (tot r : Int) ≤ 1000000 := by omega
  have hr0 : (0 : Int) ≤ (tot r : Int) := Int.natCast_nonneg _
  have hrn : ¬ (1 + (tot r : Int) < 0) := by omega
  go_enter Try.func3, Try.ntmps3
  go_wp2_with fail
  refine (toIntS_any No _ l w hv).mono ?_
  rintro e w1 ⟨t1, rfl, o1, k1⟩
  have b1 := k1.size
  go_wp2_with fail
  refine (specContentsOf_any No n p k t1 l w1 o1.readNo).mono ?_
  rintro e w2 ⟨v0, vb, rfl, rfl, ⟨Fw, ow⟩, k2⟩
  rw [HR.out] at ow
  have b2 := k2.size
  go_wp2_with fail
  refine (toIntS_any No _ l w2 ((hv.keep k1).keep k2)).mono ?_
  rintro e w3 ⟨x3, rfl, ox, k3⟩
  have b3 := k3.size
  have ow0 := ow
  have ox0 := ox
  have ow := ow.keep k3
  go_wp2_with fail
  refine (implContentsOf_any No n p k x3 l w3 ox.readNo).mono ?_
  rintro e w4 ⟨g0, gb, rfl, rfl, ⟨Fg, og⟩, k4⟩
  rw [HR.out] at og
  have b4 := k4.size
  have ow := ow.keep k4
  have ox := ox.keep k4
  have hv4 := (((hs.keep k1).keep k2).keep k3).keep k4
  have ch4 := (((k1.keep k2).keep k3).keep k4)
  go_wp2_with fail
  refine (eqIntSS_same No No g0 v0 r w4 og.readNo ow.readNo).mono ?_
  rintro e w5 ⟨rfl, k5⟩
  replace k5 := k5.chg
  have dvx : ∀ q, Fw q → ¬ own x3 q := fun q h1 h2 => by have := (ow0.lt q h1).2; have := (ox0.lt q h2).1; omega
  have dgx : ∀ q, Fg q → ¬ own x3 q := fun q h1 h2 => by have := (og.lt q h1).1; have := (ox0.lt q h2).2; omega
  have dgv : ∀ q, Fg q → ¬ Fw q := fun q h1 h2 => by have := (og.lt q h1).1; have := (ow0.lt q h2).2; omega
  have hx0 : ∀ q, own x3 q → w.heap.size ≤ q := fun q h1 => by have := (ox0.lt q h1).1; omega
  have hg0 : ∀ q, Fg q → w.heap.size ≤ q := fun q h1 => by have := (og.lt q h1).1; omega
  have DVX := Lib.hid dvx
  have DGX := Lib.hid dgx
  have DGV := Lib.hid dgv
  have HX0 := Lib.hid hx0
  have HG0 := Lib.hid hg0
  clear dvx dgx dgv hx0 hg0
  have ow := ow.keep k5
  have ox := ox.keep k5
  have og := og.keep k5
  have hv5 := hv4.keep k5
  have ch5 := ch4.keep k5
  go_wp2_with fail
  refine (toIntS_any _ _ l w5 hv5).mono ?_
  rintro e w6 ⟨t2, rfl, o2, k6⟩
  have ow := ow.keep k6
  have ox := ox.keep k6
  have og := og.keep k6
  have hv6 := hv5.keep k6
  have ch6 := ch5.keep k6
  go_wp2_with fail
  refine (eqIntS_same No No x3 t2 l w6 ox.readNo o2.readNo).mono ?_
  rintro e w7 ⟨_, rfl, rfl, k7⟩
  have ow := ow.keep k7
  have ox := ox.keep k7
  have og := og.keep k7
  have hv7 := hv6.keep k7
  have ch7 := ch6.keep k7
  go_wp2_with fail
  refine (markIntS_any _ x3 l 1 w7 ox (by omega)).mono ?_
  rintro e w8 ⟨_, rfl, rfl, ox8, k8⟩
  have hl0 : (0 : Int) ≤ (l.length : Int) := Int.natCast_nonneg _
  have hln : ¬ (1 + (l.length : Int) < 0) := by omega
  have ow := ow.step k8 DVX.out
  have og := og.step k8 DGX.out
  have hv8 := hv7.step k8 HX0.out
  have ch8 := ch7.step k8 (fun q hq hl => by have := HX0.out q hq; omega)
  go_wp2_with fail
  refine (eqIntSS_same No No g0 v0 r w8 og.readNo ow.readNo).mono ?_
  rintro e w9 ⟨rfl, k9⟩
  replace k9 := k9.chg
  have ow := ow.keep k9
  have og := og.keep k9
  have hv9 := hv8.keep k9
  have ch9 := ch8.keep k9
  go_wp2_with fail
  refine (markIntSS_any _ g0 r Fg 1 w9 og (by omega) hrt1).mono ?_
  rintro e w10 ⟨_, rfl, rfl, og, k10⟩
  have ow := ow.step k10 (fun q h1 h2 => DGV.out q h2 h1)
  have hv10 := hv9.step k10 HG0.out
  have ch10 := ch9.step k10 (fun q hq hl => by have := HG0.out q hq; omega)
  go_wp2_with fail
  refine (heldIntSS_any g0 r 1 w10 og.readNo (by omega) hrt1).mono ?_
  rintro e w11 ⟨rfl, rfl⟩
  go_wp2_with fail
  refine (toIntS_any _ _ l w10 hv10).mono ?_
  rintro e w12 ⟨t3, rfl, o3, k12⟩
  have ow := ow.keep k12
  have og := og.keep k12
  have ch12 := ch10.keep k12
  go_wp2_with fail
  refine (implContentsOf_any No n p k t3 l w12 o3.readNo).mono ?_
  rintro e w13 ⟨h0, hb, rfl, rfl, ⟨Fh, oh⟩, k13⟩
  rw [HR.out] at oh
  have ow := ow.keep k13
  have og := og.keep k13
  have ch13 := ch12.keep k13
  go_wp2_with fail
  refine (eqIntSS_same No No h0 v0 r w13 oh.readNo ow.readNo).mono ?_
  rintro e w14 ⟨rfl, k14⟩
  replace k14 := k14.chg
  have og := og.keep k14
  have ch14 := ch13.keep k14
  go_wp2_with fail
  refine (heldIntSS_any g0 r 1 w14 og.readNo (by omega) hrt1).mono ?_
  rintro e w15 ⟨rfl, rfl⟩
  go_wp2_with fail
  go_ret
  exact ⟨rfl, ch14⟩
end Go.Proofs.Ythonkbilgllobaa
