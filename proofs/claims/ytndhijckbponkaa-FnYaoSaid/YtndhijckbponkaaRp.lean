import Derived.Test.YtndhijckbponkaaRo
import Derived.Test.YtndhijckbponkaaEc
import Derived.Test.YtndhijckbponkaaPkX2
import Derived.ChangeKeysEq
/- the sequences in order, with a function of five cells; the worst sequence of a mixture -/
namespace Go.Proofs.Ytndhijckbponkaa
open Go.RowKit

set_option maxRecDepth 100000 in
set_option maxHeartbeats 4000000 in
theorem sequences5_any (f : FuncId) (c1 c2 c3 c4 c5 : Value) (n L bS bT : Nat) (J : Nat → World → Prop) (w : World) (hn : 1 ≤ n) (hn8 : n ≤ 8) (hL : L ≤ 4)
    (hcf : ∀ x (w : World), (callFunc f #[x, c1, c2, c3, c4, c5]).run Try.prog w = .ok (.enter f #[x, c1, c2, c3, c4, c5]) w)
    (hkeep : ∀ j w1 w2 S, J j w1 → Chg S w1 w2 → (∀ q, S q → w.heap.size ≤ q) → J j w2) (hbS : bS < w.heap.size ∧ bT < w.heap.size)
    (hcall : ∀ j w1 v, j < n ^ L → J j w1 → RI No w1 v (digs n L j) → Calls Try.prog f #[v, c1, c2, c3, c4, c5] w1 (Ret fun r w2 => r = .tuple #[] ∧ J (j + 1) w2 ∧ Chg (fun q => q = bS ∨ q = bT) w1 w2))
    (h0 : J 0 w) :
    Calls Try.prog 77 #[.int .i64 (n : Int), .int .i64 (L : Int), .func (.func f) #[] #[c1, c2, c3, c4, c5]] w (Ret fun r w' => r = .tuple #[] ∧ J (n ^ L) w' ∧ Chg (fun q => q = bS ∨ q = bT) w w') := by
  have HK := Lib.hid hkeep
  have HC := Lib.hid hcall
  clear hkeep hcall
  have hL0 : (0 : Int) ≤ (L : Int) := Int.natCast_nonneg _
  have hL4 : (L : Int) ≤ 4 := by omega
  have hn0 : (1 : Int) ≤ (n : Int) := by omega
  have hn4 : (n : Int) ≤ 8 := by omega
  have hwL : IntKind.i64.wrap ((L : Int) - 1) = (L : Int) - 1 := IntWalk.i64_in _ (by omega)
  have hwn : IntKind.i64.wrap ((n : Int) - 1) = (n : Int) - 1 := IntWalk.i64_in _ (by omega)
  go_enter Try.func77, Try.ntmps77
  go_wp2_with (refine wmake rfl (.tmp 8) (.tmp 8) rfl L rfl rfl (by omega) ?_)
  intro W hW hch0
  go_wp2_with fail
  go_loopw [7] (fun _ wr => ∃ j : Nat, j < n ^ L ∧ OI w.heap.size wr (.slice (some ⟨w.heap.size, 0, none⟩) L L) (digs n L j) ∧ J j wr ∧ Chg (fun q => q = bS ∨ q = bT) w wr) (fun _ wr => n ^ L - valD n (rdL wr w.heap.size L))
  case atStart => exact ⟨0, Nat.pow_pos hn, by rw [digs_zero]; exact hW, HK.out _ _ _ No h0 hch0 (fun _ e => e.elim), hch0.mono (fun _ e _ => e.elim)⟩
  case round =>
    obtain ⟨t, ht, ho, hJ, hch⟩ := hrel
    have ho0 := ho
    have hsz := hch.size
    have HCF := Lib.hid hcf
    have hval := Lib.hid (rdL_digs ho ht)
    go_wp2_with fail
    clear hcf
    refine (HC.out t wr _ ht hJ ho.readNo).mono ?_
    rintro e w1 ⟨v1, rfl, rfl, hJ1, k1⟩
    have hch1 := hch.trans k1
    have ho1 := ho.step k1 (fun q hq hq' => by have := (ho.lt q hq).1; omega)
    go_wp2_with fail
    go_loopw [7] (fun i wi => ∃ m : Nat, m ≤ L ∧ i = .int .i64 ((L : Int) - 1 - m) ∧ n ^ m ∣ t + 1 ∧ OI w.heap.size wi (.slice (some ⟨w.heap.size, 0, none⟩) L L) (zed n L t m) ∧ J (t + 1) wi ∧ Chg (fun q => q = bS ∨ q = bT) w wi) (fun i _ => (intOf i + 1).toNat)
    case atStart => exact ⟨0, Nat.zero_le _, by simp, by simp, by rw [zed_zero]; exact ho1, hJ1, hch1⟩
    case round =>
      obtain ⟨m, hm, rfl, hdv, hoi, hJi, hchi⟩ := hrel
      have hszi := hchi.size
      by_cases hlt : m < L
      · obtain ⟨q, hq⟩ : ∃ q : Nat, q = L - 1 - m := ⟨_, rfl⟩
        have hqi : (L : Int) - 1 - (m : Int) = (q : Int) := by omega
        rw [hqi]
        have hnx := zed_next (L := L) hn hlt hdv
        have hup := zed_up hn hlt ht hdv
        rw [← hq] at hnx hup
        have hoc := hoi.at.1 q (by rw [zed_len]; omega)
        have hof := hoi.at.2.1 q
        rw [zed_at n L t m q (by omega), if_pos (by omega), show L - 1 - q = m by omega] at hoc
        have hdl := Nat.mod_lt (t / n ^ m) hn
        obtain ⟨d, hd⟩ : ∃ d, t / n ^ m % n = d := ⟨_, rfl⟩
        rw [hd] at hnx hup hoc hdl
        have hq0 : (0 : Int) ≤ (q : Int) := Int.natCast_nonneg _
        have hq1 : (q : Int) < (L : Int) := by omega
        have hwq : IntKind.i64.wrap ((q : Int) - 1) = (q : Int) - 1 := IntWalk.i64_in _ (by omega)
        by_cases hdn : d = n - 1
        · obtain ⟨hn1, hn2⟩ := hnx hdn
          have hdi : (d : Int) = (n : Int) - 1 := by omega
          obtain ⟨o1, o2⟩ := hoi.store q 0
          have HN := Lib.hid hn2
          rw [hdi] at hoc
          clear hnx hup hd hq hdv
          go_wp2_with fail
          go_round
          case rel =>
            refine ⟨m + 1, hlt, by congr 1; omega, hn1, by rw [← HN.out]; exact o1, HK.out _ _ _ _ hJi o2 (fun q hq => Nat.le_of_eq hq.symm), hchi.step o2 (fun q hq hl => by omega)⟩
          case measure => simp [intOf]
        · obtain ⟨hu1, hu2⟩ := hup hdn
          have hdi : ¬ (d : Int) = (n : Int) - 1 := by omega
          have hd0 : (0 : Int) ≤ (d : Int) := Int.natCast_nonneg _
          have hwd : IntKind.i64.wrap ((d : Int) + 1) = (d : Int) + 1 := IntWalk.i64_in _ (by omega)
          have HN := Lib.hid hu2
          clear hnx hup hd hq
          clear hu2 hdv
          obtain ⟨o1, o2⟩ := hoi.store q ((d : Int) + 1)
          rw [HN.out] at o1
          have hval2 := Lib.hid (rdL_digs o1 hu1)
          go_wp2_with fail
          refine ⟨⟨t + 1, hu1, o1, HK.out _ _ _ _ hJi o2 (fun q hq => Nat.le_of_eq hq.symm), hchi.step o2 (fun q hq hl => by omega)⟩, ?_⟩
          rw [hval.out, hval2.out]
          omega
      · have hmL : m = L := by omega
        subst hmL
        have hte : t + 1 = n ^ m := by
          have := Nat.le_of_dvd (by omega) hdv
          omega
        rw [hte] at hJi
        rw [show (m : Int) - 1 - (m : Int) = -1 by omega]
        go_wp2_with fail
        go_end0
        exact ⟨_, rfl, rfl, hJi, hchi⟩

/-- the cells of WorstOfMixture behind k sequences -/
def WJ (p : Pr) (ns : List (List (List Int))) (ws : List Int) (S n L bM bB : Nat) (W0 : World) (k : Nat) (W : World) : Prop :=
  ∃ (mo : Int) (bv : Value), BoxN W bM [.int .i64 mo] ∧ BoxN W bB [bv] ∧ (∃ a m c, bv = .slice a m c) ∧ (∀ t, t < k → mixV p ns ws S (digs n L t) ≤ mo) ∧ -1 ≤ mo ∧ mo ≤ 257040 ∧ (0 < k → 0 ≤ mo) ∧ Chg (fun q => q = bM ∨ q = bB) W0 W
theorem cfWorst (c1 c2 c3 c4 c5 x : Value) (w : World) : (callFunc 78 #[x, c1, c2, c3, c4, c5]).run Try.prog w = .ok (.enter 78 #[x, c1, c2, c3, c4, c5]) w := by kernel_rfl
theorem mixV_in {p : Pr} (hp : PrP p) {ns : List (List (List Int))} {ws : List Int} (hm : MixP p ns ws) {S : Nat} (hS : S < p.mv.length) {q : List Int} (hq : ∀ r ∈ q, 0 ≤ r ∧ r < (p.sv.length : Int)) (hl : q.length ≤ 60) : 0 ≤ mixV p ns ws S q ∧ mixV p ns ws S q ≤ 257040 := by
  have h1 := mixTo_in hp hm hS hq hl ns.length (Nat.le_refl _)
  have h2 := (mix_len hm).2.1
  unfold mixV
  omega
set_option maxRecDepth 100000 in
set_option maxHeartbeats 2000000 in
theorem WorstOfMixture1_any (mv sv wv nv : Value) (p : Pr) (ns : List (List (List Int))) (ws : List Int) (S k L bP bX bS bM bB : Nat) (W0 w : World) (v : Value) (hp : PrP p) (hm : MixP p ns ws) (hS : S < p.mv.length) (hL : L ≤ 4)
    (h : RPr (fun q => q = bM ∨ q = bB) W0 (.agg #[mv, sv]) p) (hc : RMx (fun q => q = bM ∨ q = bB) W0 (.agg #[wv, nv]) ns ws) (b0 : BoxN W0 bP [mv, sv]) (b1 : BoxN W0 bX [wv, nv]) (b2 : BoxN W0 bS [.int .i64 (S : Int)])
    (hne : ¬ (bP = bM ∨ bP = bB) ∧ ¬ (bX = bM ∨ bX = bB) ∧ ¬ (bS = bM ∨ bS = bB) ∧ ¬ bM = bB) (hk : k < p.sv.length ^ L) (hJ : WJ p ns ws S p.sv.length L bM bB W0 k w) (hv : RI No w v (digs p.sv.length L k)) :
    Calls Try.prog 78 #[v, .pointer (some ⟨bP, 0, none⟩), .pointer (some ⟨bX, 0, none⟩), .pointer (some ⟨bS, 0, none⟩), .pointer (some ⟨bM, 0, none⟩), .pointer (some ⟨bB, 0, none⟩)] w (Ret fun r w2 => r = .tuple #[] ∧ WJ p ns ws S p.sv.length L bM bB W0 (k + 1) w2 ∧ Chg (fun q => q = bM ∨ q = bB) w w2) := by
  obtain ⟨mo, bv, cM, cB, ⟨ba, bm, bc, rfl⟩, hle, hmo1, hmo2, hmo3, ch⟩ := hJ
  obtain ⟨hn0, hn1, hn2, hMB⟩ := hne
  replace h := h.step ch (fun q e => e)
  replace hc := hc.step ch (fun q e => e)
  replace b0 := b0.step ch hn0
  replace b1 := b1.step ch hn1
  replace b2 := b2.step ch hn2
  have hsv1 : 0 < p.sv.length := hp.2.2.1.1
  have hqr : ∀ r ∈ digs p.sv.length L k, 0 ≤ r ∧ r < (p.sv.length : Int) := digs_below hsv1 L k
  have hql : (digs p.sv.length L k).length ≤ 60 := by rw [digs_len]; omega
  have hin := mixV_in hp hm hS hqr hql
  have g0 := b0.c 0 _ rfl
  have g1 := b0.c 1 _ rfl
  have g2 := b1.c 0 _ rfl
  have g3 := b1.c 1 _ rfl
  have g4 := b2.c 0 _ rfl
  have HC := Lib.hid (mixed_any _ _ No (.agg #[mv, sv]) (.agg #[wv, nv]) v p ns ws S (digs p.sv.length L k) w hp hm h hc hv hS hqr hql)
  obtain ⟨mval, hmv⟩ : ∃ x, mixV p ns ws S (digs p.sv.length L k) = x := ⟨_, rfl⟩
  rw [hmv] at hin HC
  have HLE := Lib.hid hle
  have HMV := Lib.hid hmv
  have HH := Lib.hid hmo3
  clear hle hmv hmo3 hqr hql h hc
  obtain ⟨q, hq⟩ : ∃ q, digs p.sv.length L k = q := ⟨_, rfl⟩
  rw [hq] at hv
  obtain ⟨qa, qc, rfl, _⟩ := id hv
  clear hq
  go_enter Try.func78, Try.ntmps78
  go_wp2_with fail
  refine HC.out.mono ?_
  rintro e w1 ⟨_, rfl, rfl, k1⟩
  have cM1 := cM.keep k1
  have cB1 := cB.keep k1
  have g5 := cM1.c 0 _ rfl
  have g6 := cB1.c 0 _ rfl
  have f5 := cM1.fr 0
  have f6 := cB1.fr 0
  have hv1 := hv.keep k1
  have ch1 := ch.keep k1
  clear g0 g1 g2 g3 g4 HC
  by_cases hgt : mo < mval
  · go_wp2_with fail
    refine (Clone_any No _ q w1 hv1).mono ?_
    rintro e w2 ⟨_, rfl, ho, k2⟩
    obtain ⟨oa, on, oc, rfl⟩ := ho.shape
    have cM2 := cM1.keep k2
    have cB2 := cB1.keep k2
    have g7 := cM2.c 0 _ rfl
    have g8 := cB2.c 0 _ rfl
    have f7 := cM2.fr 0
    have f8 := cB2.fr 0
    have hBM : ¬ bB = bM := fun e => hMB e.symm
    have hF : WJ p ns ws S p.sv.length L bM bB W0 (k + 1) ((w2.setCell ⟨bB, 0, none⟩ (.slice oa on oc)).setCell ⟨bM, 0, none⟩ (.int .i64 mval)) :=
      ⟨mval, .slice oa on oc, (cM2.far ⟨bB, 0, none⟩ _ (by simp; exact hBM)).set (i := 0) (by simp) _, (cB2.set (i := 0) (by simp) _).far ⟨bM, 0, none⟩ _ (by simp; exact hMB), ⟨_, _, _, rfl⟩, fun t ht => by
        by_cases e : t = k
        · subst e; rw [HMV.out]; exact Int.le_refl _
        · have := HLE.out t (by omega); omega, by omega, by omega, fun _ => by omega,
        ((ch1.keep k2).setCell (p := ⟨bB, 0, none⟩) (fun _ => .inr rfl) _).setCell (p := ⟨bM, 0, none⟩) (fun _ => .inl rfl) _⟩
    have hK : Chg (fun q => q = bM ∨ q = bB) w ((w2.setCell ⟨bB, 0, none⟩ (.slice oa on oc)).setCell ⟨bM, 0, none⟩ (.int .i64 mval)) :=
      ((((Chg.refl (fun q => q = bM ∨ q = bB) w).step k1 (fun _ e _ => e.elim)).step k2 (fun _ e _ => e.elim)).setCell (p := ⟨bB, 0, none⟩) (fun _ => .inr rfl) _).setCell (p := ⟨bM, 0, none⟩) (fun _ => .inl rfl) _
    have HF := Lib.hid (And.intro hF hK)
    clear hF hK cM1 cB1 cM2 cB2 cM cB b0 b1 b2 g5 g6 f5 f6 ch ch1 k1 k2 ho hv hv1
    go_wp2_with fail
    go_end0
    exact ⟨_, rfl, rfl, HF.out.1, HF.out.2⟩
  · have hF : WJ p ns ws S p.sv.length L bM bB W0 (k + 1) w1 := ⟨mo, .slice ba bm bc, cM1, cB1, ⟨_, _, _, rfl⟩, fun t ht => by
      by_cases e : t = k
      · subst e; rw [HMV.out]; omega
      · exact HLE.out t (by omega), hmo1, hmo2, fun _ => by omega, ch1⟩
    have HF := Lib.hid (And.intro hF ((Chg.refl (fun q => q = bM ∨ q = bB) w).step k1 (fun _ e _ => e.elim)))
    clear hF cM1 cB1 cM cB b0 b1 b2 ch ch1 k1 hv hv1
    go_wp2_with fail
    go_end0
    exact ⟨_, rfl, rfl, HF.out.1, HF.out.2⟩
end Go.Proofs.Ytndhijckbponkaa
