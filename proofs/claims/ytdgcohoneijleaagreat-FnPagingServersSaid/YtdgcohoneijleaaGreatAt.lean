import Derived.Test.YtdgcohoneijleaaGreatPkX12
import Derived.Test.YtdgcohoneijleaaGreatPkX13
import Derived.Test.YtdgcohoneijleaaGreatPkX11
/- FnPagingServers: the law -/
namespace Go.Proofs.YtdgcohoneijleaaGreat
open Go.RowKit

/-- the items below n of a drawn list, as the law takes them -/
def takQ (n : Int) (l : List Int) (i : Nat) : List Int := ((l.take i).filter fun x => decide (0 ≤ x)).map fun x => x % n
theorem takQ_in {n : Nat} (hn : 1 ≤ n) (l : List Int) (i : Nat) : Pts n (takQ n l i) := fun x hx => by
  obtain ⟨y, hy, rfl⟩ := List.mem_map.1 hx
  have h0 : 0 ≤ y := by simpa using (List.mem_filter.1 hy).2
  exact ⟨Int.emod_nonneg _ (by omega), Int.emod_lt_of_pos _ (by omega)⟩
theorem takQ_len (n : Int) (l : List Int) (i : Nat) : (takQ n l i).length ≤ i := by
  unfold takQ
  rw [List.length_map]
  exact Nat.le_trans (List.length_filter_le _ _) (by rw [List.length_take]; omega)
theorem takQ_no {n : Int} {l : List Int} {i : Nat} (hi : i < l.length) (h : ¬ 0 ≤ l.getD i 0) : takQ n l (i + 1) = takQ n l i := by
  unfold takQ
  rw [take_snocD l 0 hi, List.filter_append, List.filter_cons, if_neg (by simpa using h)]
  simp
theorem takQ_yes {n : Int} {l : List Int} {i : Nat} (hi : i < l.length) (h : 0 ≤ l.getD i 0) : takQ n l (i + 1) = takQ n l i ++ [l.getD i 0 % n] := by
  unfold takQ
  rw [take_snocD l 0 hi, List.filter_append, List.filter_cons, if_pos (by simpa using h)]
  simp
set_option maxRecDepth 100000 in
set_option maxHeartbeats 16000000 in
theorem law_FnPagingServers (v : Value) (n : Nat) (w : World) (h : Code w v n) :
    Calls Tryz.prog 3 #[v] w fun e w' => e = .returned (.bool true) ∧ Chg No w w' := by
  obtain ⟨a, cp, rfl⟩ := h.shape
  go_enter Tryz.func3, Tryz.ntmps3
  go_wp2_with fail
  refine (vBig_any _ _ _ h).mono ?_
  rintro e w' ⟨rfl, rfl⟩
  by_cases hbig : (65536 : Int) < (n : Int)
  · go_wp2_with fail
    go_ret
    exact ⟨rfl, Chg.refl No _⟩
  · go_wp2_with fail
    refine (vAt_any _ _ 3 _ h (by omega) (by omega)).mono ?_
    rintro e w1 ⟨x3, rfl, hx0, hx1, rfl⟩
    have hm3 : Int.tmod x3 5 = x3 % 5 := Int.tmod_eq_emod_of_nonneg hx0
    go_wp2_with fail
    refine (vAt_any _ _ 4 _ h (by omega) (by omega)).mono ?_
    rintro e w1 ⟨x4, rfl, hy0, hy1, rfl⟩
    have hm4 : Int.tmod x4 3 = x4 % 3 := Int.tmod_eq_emod_of_nonneg hy0
    obtain ⟨N, hN⟩ : ∃ N : Nat, 2 + x3 % 5 = (N : Int) := ⟨(2 + x3 % 5).toNat, by omega⟩
    obtain ⟨K, hK⟩ : ∃ K : Nat, 1 + x4 % 3 = (K : Int) := ⟨(1 + x4 % 3).toNat, by omega⟩
    have hw1 : IntKind.i64.wrap (2 + x3 % 5) = (N : Int) := by rw [IntWalk.i64_in _ (by omega)]; exact hN
    have hw2 : IntKind.i64.wrap (1 + x4 % 3) = (K : Int) := by rw [IntWalk.i64_in _ (by omega)]; exact hK
    have hN6 : 2 ≤ N ∧ N ≤ 6 := by omega
    have hK3 : 1 ≤ K ∧ K ≤ 3 := by omega
    go_wp2_with fail
    refine (vCut_any _ n 1 _ h (by omega) (by omega)).mono ?_
    rintro e w2 ⟨cv, cn, rfl, hc, hcn, k2⟩
    obtain ⟨ca, cc, rfl⟩ := hc.shape
    clear hx0 hx1 hy0 hy1 hm3 hm4 hN hK hw1 hw2 h
    go_wp2_with fail
    refine (DrawReqs_any _ cn _ hc hcn).mono ?_
    rintro e w3 ⟨m, rv, l, rfl, ho, hl, k3⟩
    have kk := k2.keep k3
    have hr := ho.readNo
    obtain ⟨ra, rc, rfl, _⟩ := id hr
    clear hc ho k2 k3
    by_cases hkn : N < K
    · have hkn1 : (N : Int) < (K : Int) := by omega
      go_wp2_with fail
      have hK' : 1 ≤ N ∧ N ≤ 3 ∧ N ≤ N := by omega
      have HKN := Lib.hid (And.intro hN6 hK')
      have hN0 : ¬ (N : Int) = 0 := by omega
      have hb0 := (OI.zero (base := w3.heap.size) (w := w3) (Nat.le_refl _)).keep ((Chg.refl No _).alloc (.cells #[] 3))
      have hq0 := OI.zero (base := w3.heap.size) (w := w3.alloc (.cells #[] 3)) (by simp)
      have kq0 := (kk.alloc (.cells #[] 3)).alloc (.cells #[] 3)
      have kw0 := ((Chg.refl No w3).alloc (.cells #[] 3)).alloc (.cells #[] 3)
      have hsz : (w3.alloc (.cells #[] 3)).heap.size = w3.heap.size + 1 := by simp
      rw [hsz] at hq0
      clear hsz hN6
      generalize World.alloc (w3.alloc _) _ = w4 at hb0 hq0 kq0 kw0 ⊢
      obtain ⟨R0, hR0⟩ : ∃ R, w3.heap.size = R := ⟨_, rfl⟩
      rw [hR0] at hb0 hq0
      try rw [hR0]
      have HR0 := Lib.hid hR0
      clear hR0
      go_loopw [7, 9] (fun o z wr => ∃ (i : Nat), i ≤ N ∧ z = .int .i64 (i : Int) ∧ OI R0 wr o (firstL i) ∧ OI R0 wr (.slice (some ⟨R0 + 1, 0, none⟩) 0 0) [] ∧ Hid (¬ own o (R0 + 1)) ∧ Chg No w3 wr) (fun _ z _ => N - (intOf z).toNat)
      case atStart => exact ⟨0, Nat.zero_le _, rfl, hb0, hq0, Lib.hid (fun e => by have := own_slice.1 e; omega), kw0⟩
      case round =>
        clear hb0 hq0 kq0 kw0
        obtain ⟨i, hi, rfl, hb, hq, HO, kr⟩ := hrel
        have hi0 : (0 : Int) ≤ (i : Int) := Int.natCast_nonneg _
        have HFS := Lib.hid (firstL_succ i)
        have hfl := firstL_len i
        obtain ⟨B, hB⟩ : ∃ B, firstL i = B := ⟨_, rfl⟩
        rw [hB] at hb HFS hfl
        have HB := Lib.hid hB
        have HBL := Lib.hid hfl
        obtain ⟨ba, bc, rfl, _⟩ := hb.view
        have hl9 : B.length < 17592186044416 := by omega
        have z1 : R0 ≤ wr.heap.size := by have := kr.size; have := HR0.out; omega
        clear hB hfl
        by_cases hlt : i < N
        · have hi1 : (i : Int) < (N : Int) := by omega
          have hwi : IntKind.i64.wrap ((i : Int) + 1) = (i : Int) + 1 := IntWalk.i64_in _ (by omega)
          go_wp2_with (at_builtin; refine wapp1 rfl (.tmp 54) (.tmp 56) rfl hb rfl rfl hl9 z1 ?_)
          intro v5 w5 h5 k5 f5
          have hq5 := hq.step k5 (fun p hp e => by have := own_slice.1 hp; subst this; exact HO.out e)
          have hz1 := (hq.lt (R0 + 1) (own_slice.2 rfl)).2
          have HO5 : Hid (¬ own v5 (R0 + 1)) := Lib.hid (fun e => (f5 _ e).elim HO.out (fun h => by omega))
          have kr5 := kr.step k5 (fun p hp hl => by have := (hb.lt p hp).1; have := HR0.out; omega)
          rw [← HFS.out] at h5
          have H5 := Lib.hid h5
          clear h5 hb hq HO kr
          go_wp2_with fail
          go_round
          case rel => exact ⟨i + 1, hlt, by go_num, H5.out, hq5, HO5, kr5⟩
          case measure => simp [intOf]; omega
        · have hie : i = N := by omega
          have hi1 : ¬ (i : Int) < (N : Int) := by omega
          have hbK : firstL N = B := by rw [← hie]; exact HB.out
          have HBK := Lib.hid hbK
          have HBQ : Hid (∀ p, own (.slice ba B.length bc) p → ¬ own (.slice (some ⟨R0 + 1, 0, none⟩) 0 0) p) := Lib.hid (fun p hp e => by have := own_slice.1 e; subst this; exact HO.out hp)
          have hr' := hr.keep kr
          clear HO HB hbK
          obtain ⟨wo, hwo⟩ : ∃ wo : World, wo = wr := ⟨_, rfl⟩
          go_wp2_with fail
          rw [← hwo] at hb hq kr z1 ⊢
          clear hwo hr'
          go_loopw [8, 10] (fun o z wr => ∃ (i : Nat), i ≤ l.length ∧ i ≤ 40 ∧ z = .int .i64 (i : Int) ∧ OI R0 wr o (takQ N l i) ∧ OI R0 wr (.slice ba B.length bc) B ∧ Hid (∀ p, own (.slice ba B.length bc) p → ¬ own o p) ∧ Chg No w3 wr) (fun _ z _ => 40 - (intOf z).toNat)
          case atStart => exact ⟨0, Nat.zero_le _, by omega, rfl, hq, hb, HBQ, kr⟩
          case round =>
            clear hb hq HBQ kr z1
            obtain ⟨i, hi, hi40, rfl, hq, hb, HBQ, kr⟩ := hrel
            have hi0 : (0 : Int) ≤ (i : Int) := Int.natCast_nonneg _
            have z1 : R0 ≤ wr.heap.size := by have := kr.size; have := HR0.out; omega
            have HTN := Lib.hid (fun h1 h2 => takQ_no (n := (N : Int)) (l := l) (i := i) h1 h2)
            have HTY := Lib.hid (fun h1 h2 => takQ_yes (n := (N : Int)) (l := l) (i := i) h1 h2)
            have HTP := Lib.hid (And.intro (takQ_in (n := N) (by have := HKN.out.1; omega) l i) (takQ_len (N : Int) l i))
            obtain ⟨Q, hQ⟩ : ∃ Q, takQ N l i = Q := ⟨_, rfl⟩
            rw [hQ] at hq HTN HTY HTP
            obtain ⟨qa, qc, rfl, _⟩ := hq.view
            have hl9 : Q.length < 17592186044416 := by have := HTP.out.2; omega
            clear hQ
            by_cases hlt : i < l.length ∧ i < 40
            · obtain ⟨hlt, hlt2⟩ := hlt
              have hi1 : (i : Int) < (l.length : Int) := by omega
              have hi2 : (i : Int) < 40 := by omega
              have hwi : IntKind.i64.wrap ((i : Int) + 1) = (i : Int) + 1 := IntWalk.i64_in _ (by omega)
              obtain ⟨lb, lf, rfl, hlb, hcl⟩ := (hr.keep kr).cellN hlt
              have HLT := Lib.hid hlt
              obtain ⟨x, hx⟩ : ∃ x, l.getD i 0 = x := ⟨_, rfl⟩
              rw [hx] at hcl HTN HTY
              clear hx
              by_cases hx0 : 0 ≤ x
              · have HE := Lib.hid (HTY.out HLT.out hx0)
                go_wp2_with (at_builtin; refine wapp1 rfl (.tmp 73) (.tmp 80) rfl hq rfl rfl hl9 z1 ?_)
                intro v5 w5 h5 k5 f5
                have hb5 := hb.step k5 (fun p hp e => HBQ.out p hp e)
                have HB5 : Hid (∀ p, own (.slice ba B.length bc) p → ¬ own v5 p) := Lib.hid (fun p hp e => (f5 p e).elim (HBQ.out p hp) (fun h => by have := (hb.lt p hp).2; omega))
                have kr5 := kr.step k5 (fun p hp hl => by have := (hq.lt p hp).1; have := HR0.out; omega)
                rw [← HE.out] at h5
                have H5 := Lib.hid h5
                clear h5 hb hq HBQ kr hcl
                go_wp2_with fail
                go_round
                case rel => exact ⟨i + 1, hlt, by omega, by go_num, H5.out, hb5, HB5, kr5⟩
                case measure => simp [intOf]; omega
              · have HE := Lib.hid (HTN.out HLT.out hx0)
                go_wp2_with fail
                go_round
                case rel => exact ⟨i + 1, hlt, by omega, by go_num, by rw [HE.out]; exact hq, hb, HBQ, kr⟩
                case measure => simp [intOf]; omega
            · have hQ40 : Q.length ≤ 40 := by have := HTP.out.2; omega
              obtain ⟨least, cost, few, fau, G⟩ := pgServ HKN.out.1 ⟨HKN.out.2.1, HKN.out.2.2.1⟩ HKN.out.2.2.2 HTP.out.1 hQ40
              rw [HBK.out] at G
              have HG := Lib.hid G
              have e1 := G.e1
              have e2 := G.e2
              have e3 := G.e3
              have b1 := G.b1
              have b2 := G.b2
              have hbr := hb.readNo
              have hqr := hq.readNo
              clear hb hq HBQ G HTN HTY
              have hgu : i < l.length → ¬ i < 40 := fun h1 h2 => hlt ⟨h1, h2⟩
              clear hlt
              have kw := kk.keep kr
              by_cases hlt : i < l.length
              · have hi1 : (i : Int) < (l.length : Int) := by omega
                have hi2 : ¬ (i : Int) < 40 := by have := hgu hlt; omega
                clear hgu
                go_wp2_with fail
                have hN18 : 1 ≤ N ∧ N ≤ 6 := by have := HKN.out.1; omega
                refine (UniformMetric_any N 1 wr hN18 ⟨by omega, by omega⟩).mono ?_
                rintro e w6 ⟨_, _, rfl, ⟨mv, F6, rfl, hM⟩, rfl, k6⟩
                have hm6 := hM.readNo
                obtain ⟨ma, mc, rfl⟩ := hm6.shape
                have kw6 := kw.keep k6
                have hb6 := hbr.keep k6
                have hq6 := hqr.keep k6
                obtain ⟨J, hJ⟩ : ∃ J, B ++ Q = J := ⟨_, rfl⟩
                have HJ := Lib.hid hJ
                have G9 := HG.out
                have g1 := G9.serv
                have g2 := G9.hl
                have g3 := G9.hf
                have g4 := G9.pag
                have g5 := G9.hn
                have g6 := G9.ok
                have g7 := G9.hc
                rw [hJ] at g3 g4 g5 g6
                have GG := Lib.hid (And.intro g1 (And.intro g2 (And.intro g3 (And.intro g4 (And.intro g5 (And.intro g6 g7))))))
                subst e1
                have hw1 : IntKind.i64.wrap (few - (N : Int)) = few - (N : Int) := IntWalk.i64_in _ (by omega)
                have hw2 : IntKind.i64.wrap (fau - (N : Int)) = fau - (N : Int) := IntWalk.i64_in _ (by omega)
                clear g1 g2 g3 g4 g5 g6 g7 G9 hJ hM k6 hbr hqr kr kw hr
                go_wp2_with fail
                refine bx1 (R := fun W => Calls _ _ _ W _) (fun W7 k7 b7 => ?_)
                refine (LeastWork_any No No No _ _ _ (uniT N 1) B Q W7 (hm6.keep k7) (hb6.keep k7) (hq6.keep k7)).mono ?_
                rintro e w8 ⟨_, _, rfl, rfl, rfl, k8⟩
                rw [GG.out.1, if_pos rfl, GG.out.2.1]
                have k78 := k7.keep k8
                have kw8 := kw6.keep k78
                have hm8 := hm6.keep k78
                have hb8 := hb6.keep k78
                have hq8 := hq6.keep k78
                have b8 := b7.keep k8
                clear b7 k7 k8 k78 kw6 hm6 hb6 hq6
                go_wp2_with fail
                refine (Join_yes No No _ _ (N : Int) B Q w8 hb8 hq8 HG.out.join).mono ?_
                rintro e w9 ⟨jv, _, rfl, hj, rfl, k9⟩
                rw [HJ.out] at hj
                have hj9 := hj.readNo
                obtain ⟨ja, jc, rfl, _⟩ := id hj9
                have kw9 := kw8.keep k9
                have hm9 := hm8.keep k9
                have hb9 := hb8.keep k9
                have hq9 := hq8.keep k9
                have b9 := b8.keep k9
                clear hj b8 k9 kw8 hm8 hb8 hq8
                go_wp2_with fail
                refine (implFewest_any (N : Int) (N : Int) _ J w9 hj9).mono ?_
                rintro e w10 ⟨_, _, rfl, rfl, rfl, k10⟩
                rw [GG.out.2.2.1, GG.out.2.2.2.1]
                have kw10 := kw9.keep k10
                have hm10 := hm9.keep k10
                have hb10 := hb9.keep k10
                have hq10 := hq9.keep k10
                have b10 := b9.keep k10
                have hj10 := hj9.keep k10
                have q0 := b10.c 0 _ rfl
                clear b9 k10 kw9 hm9 hb9 hq9 hj9
                go_wp2_with fail
                refine (WorkRun_yes No No No _ _ _ (uniT N 1) B Q w10 hm10 hb10 hq10 GG.out.1).mono ?_
                rintro e w11 ⟨wv, _, _, rfl, ⟨F11, h11⟩, rfl, rfl, k11⟩
                rw [GG.out.2.2.2.2.2.2]
                obtain ⟨wa, wc, rfl⟩ := h11.readNo.shape
                have kw11 := kw10.keep k11
                have hj11 := hj10.keep k11
                clear b10 q0 k11 kw10 hm10 hb10 hq10 hj10 h11
                have hi1 : inB (N : Int) 1 8 = true := inB_iff.2 (by omega)
                have hi2 : inB (1 : Int) 1 7 = true := inB_iff.2 (by omega)
                have hi3 : inB (N : Int) 1 6 = true := inB_iff.2 (by have := HKN.out.2; omega)
                have HNC := Lib.hid (implNewCache_any (N : Int) 1 (N : Int) w11 hi1 hi2 hi3)
                clear hi1 hi2 hi3
                go_wp2_with fail
                refine HNC.out.mono ?_
                rintro e w12 ⟨_, _, rfl, rfl, rfl, k12⟩
                have kw12 := kw11.keep k12
                have hj12 := hj11.keep k12
                clear k12 kw11 hj11
                go_wp2_with fail
                refine bx1 (R := fun W => Calls _ _ _ W _) (fun W13 k13 b13 => ?_)
                have hrc : RC No W13 (.agg #[.int .i64 1, .int .i64 (N : Int), .slice none 0 0, .slice none 0 0, .int .i64 0]) (newC 1 (N : Int)) := ⟨_, _, rfl, RI.nil _ _, RI.nil _ _⟩
                refine (implRunCache_any (N : Int) _ _ (newC 1 (N : Int)) J W13 hrc (hj12.keep k13)).mono ?_
                rintro e w14 ⟨v0, _, _, rfl, rfl, rfl, hco, k14⟩
                rw [GG.out.2.2.2.2.1, GG.out.2.2.2.2.2.1]
                have kw14 := (kw12.keep k13).keep k14
                obtain ⟨y0, y1, pa, pn, pc, ma', mn', mc', y4, rfl⟩ : ∃ (y0 y1 : Int) (pa : Option Addr) (pn pc : Nat) (ma' : Option Addr) (mn' mc' : Nat) (y4 : Int), v0 = .agg #[.int .i64 y0, .int .i64 y1, .slice pa pn pc, .slice ma' mn' mc', .int .i64 y4] := by
                  obtain ⟨pv, mv', rfl, hp1, hp2, _⟩ := hco
                  obtain ⟨_, _, _, rfl⟩ := hp1.shape
                  obtain ⟨_, _, _, rfl⟩ := hp2.shape
                  exact ⟨_, _, _, _, _, _, _, _, _, rfl⟩
                have kw15 := kw14.alloc (.cells #[.int .i64 y0, .int .i64 y1, .slice pa pn pc, .slice ma' mn' mc', .int .i64 y4] 42)
                clear hco hrc b13 k13 k14 hj12 kw12 kw14
                go_wp2_with fail
                go_ret
                exact ⟨rfl, kw15⟩
              · have hi1 : ¬ (i : Int) < (l.length : Int) := by omega
                clear hgu
                go_wp2_with fail
                have hN18 : 1 ≤ N ∧ N ≤ 6 := by have := HKN.out.1; omega
                refine (UniformMetric_any N 1 wr hN18 ⟨by omega, by omega⟩).mono ?_
                rintro e w6 ⟨_, _, rfl, ⟨mv, F6, rfl, hM⟩, rfl, k6⟩
                have hm6 := hM.readNo
                obtain ⟨ma, mc, rfl⟩ := hm6.shape
                have kw6 := kw.keep k6
                have hb6 := hbr.keep k6
                have hq6 := hqr.keep k6
                obtain ⟨J, hJ⟩ : ∃ J, B ++ Q = J := ⟨_, rfl⟩
                have HJ := Lib.hid hJ
                have G9 := HG.out
                have g1 := G9.serv
                have g2 := G9.hl
                have g3 := G9.hf
                have g4 := G9.pag
                have g5 := G9.hn
                have g6 := G9.ok
                have g7 := G9.hc
                rw [hJ] at g3 g4 g5 g6
                have GG := Lib.hid (And.intro g1 (And.intro g2 (And.intro g3 (And.intro g4 (And.intro g5 (And.intro g6 g7))))))
                subst e1
                have hw1 : IntKind.i64.wrap (few - (N : Int)) = few - (N : Int) := IntWalk.i64_in _ (by omega)
                have hw2 : IntKind.i64.wrap (fau - (N : Int)) = fau - (N : Int) := IntWalk.i64_in _ (by omega)
                clear g1 g2 g3 g4 g5 g6 g7 G9 hJ hM k6 hbr hqr kr kw hr
                go_wp2_with fail
                refine bx1 (R := fun W => Calls _ _ _ W _) (fun W7 k7 b7 => ?_)
                refine (LeastWork_any No No No _ _ _ (uniT N 1) B Q W7 (hm6.keep k7) (hb6.keep k7) (hq6.keep k7)).mono ?_
                rintro e w8 ⟨_, _, rfl, rfl, rfl, k8⟩
                rw [GG.out.1, if_pos rfl, GG.out.2.1]
                have k78 := k7.keep k8
                have kw8 := kw6.keep k78
                have hm8 := hm6.keep k78
                have hb8 := hb6.keep k78
                have hq8 := hq6.keep k78
                have b8 := b7.keep k8
                clear b7 k7 k8 k78 kw6 hm6 hb6 hq6
                go_wp2_with fail
                refine (Join_yes No No _ _ (N : Int) B Q w8 hb8 hq8 HG.out.join).mono ?_
                rintro e w9 ⟨jv, _, rfl, hj, rfl, k9⟩
                rw [HJ.out] at hj
                have hj9 := hj.readNo
                obtain ⟨ja, jc, rfl, _⟩ := id hj9
                have kw9 := kw8.keep k9
                have hm9 := hm8.keep k9
                have hb9 := hb8.keep k9
                have hq9 := hq8.keep k9
                have b9 := b8.keep k9
                clear hj b8 k9 kw8 hm8 hb8 hq8
                go_wp2_with fail
                refine (implFewest_any (N : Int) (N : Int) _ J w9 hj9).mono ?_
                rintro e w10 ⟨_, _, rfl, rfl, rfl, k10⟩
                rw [GG.out.2.2.1, GG.out.2.2.2.1]
                have kw10 := kw9.keep k10
                have hm10 := hm9.keep k10
                have hb10 := hb9.keep k10
                have hq10 := hq9.keep k10
                have b10 := b9.keep k10
                have hj10 := hj9.keep k10
                have q0 := b10.c 0 _ rfl
                clear b9 k10 kw9 hm9 hb9 hq9 hj9
                go_wp2_with fail
                refine (WorkRun_yes No No No _ _ _ (uniT N 1) B Q w10 hm10 hb10 hq10 GG.out.1).mono ?_
                rintro e w11 ⟨wv, _, _, rfl, ⟨F11, h11⟩, rfl, rfl, k11⟩
                rw [GG.out.2.2.2.2.2.2]
                obtain ⟨wa, wc, rfl⟩ := h11.readNo.shape
                have kw11 := kw10.keep k11
                have hj11 := hj10.keep k11
                clear b10 q0 k11 kw10 hm10 hb10 hq10 hj10 h11
                have hi1 : inB (N : Int) 1 8 = true := inB_iff.2 (by omega)
                have hi2 : inB (1 : Int) 1 7 = true := inB_iff.2 (by omega)
                have hi3 : inB (N : Int) 1 6 = true := inB_iff.2 (by have := HKN.out.2; omega)
                have HNC := Lib.hid (implNewCache_any (N : Int) 1 (N : Int) w11 hi1 hi2 hi3)
                clear hi1 hi2 hi3
                go_wp2_with fail
                refine HNC.out.mono ?_
                rintro e w12 ⟨_, _, rfl, rfl, rfl, k12⟩
                have kw12 := kw11.keep k12
                have hj12 := hj11.keep k12
                clear k12 kw11 hj11
                go_wp2_with fail
                refine bx1 (R := fun W => Calls _ _ _ W _) (fun W13 k13 b13 => ?_)
                have hrc : RC No W13 (.agg #[.int .i64 1, .int .i64 (N : Int), .slice none 0 0, .slice none 0 0, .int .i64 0]) (newC 1 (N : Int)) := ⟨_, _, rfl, RI.nil _ _, RI.nil _ _⟩
                refine (implRunCache_any (N : Int) _ _ (newC 1 (N : Int)) J W13 hrc (hj12.keep k13)).mono ?_
                rintro e w14 ⟨v0, _, _, rfl, rfl, rfl, hco, k14⟩
                rw [GG.out.2.2.2.2.1, GG.out.2.2.2.2.2.1]
                have kw14 := (kw12.keep k13).keep k14
                obtain ⟨y0, y1, pa, pn, pc, ma', mn', mc', y4, rfl⟩ : ∃ (y0 y1 : Int) (pa : Option Addr) (pn pc : Nat) (ma' : Option Addr) (mn' mc' : Nat) (y4 : Int), v0 = .agg #[.int .i64 y0, .int .i64 y1, .slice pa pn pc, .slice ma' mn' mc', .int .i64 y4] := by
                  obtain ⟨pv, mv', rfl, hp1, hp2, _⟩ := hco
                  obtain ⟨_, _, _, rfl⟩ := hp1.shape
                  obtain ⟨_, _, _, rfl⟩ := hp2.shape
                  exact ⟨_, _, _, _, _, _, _, _, _, rfl⟩
                have kw15 := kw14.alloc (.cells #[.int .i64 y0, .int .i64 y1, .slice pa pn pc, .slice ma' mn' mc', .int .i64 y4] 42)
                clear hco hrc b13 k13 k14 hj12 kw12 kw14
                go_wp2_with fail
                go_ret
                exact ⟨rfl, kw15⟩
    · have hkn1 : ¬ (N : Int) < (K : Int) := by omega
      go_wp2_with fail
      have hK' : 1 ≤ K ∧ K ≤ 3 ∧ K ≤ N := by omega
      have HKN := Lib.hid (And.intro hN6 hK')
      have hN0 : ¬ (N : Int) = 0 := by omega
      have hb0 := (OI.zero (base := w3.heap.size) (w := w3) (Nat.le_refl _)).keep ((Chg.refl No _).alloc (.cells #[] 3))
      have hq0 := OI.zero (base := w3.heap.size) (w := w3.alloc (.cells #[] 3)) (by simp)
      have kq0 := (kk.alloc (.cells #[] 3)).alloc (.cells #[] 3)
      have kw0 := ((Chg.refl No w3).alloc (.cells #[] 3)).alloc (.cells #[] 3)
      have hsz : (w3.alloc (.cells #[] 3)).heap.size = w3.heap.size + 1 := by simp
      rw [hsz] at hq0
      clear hsz hN6
      generalize World.alloc (w3.alloc _) _ = w4 at hb0 hq0 kq0 kw0 ⊢
      obtain ⟨R0, hR0⟩ : ∃ R, w3.heap.size = R := ⟨_, rfl⟩
      rw [hR0] at hb0 hq0
      try rw [hR0]
      have HR0 := Lib.hid hR0
      clear hR0
      go_loopw [7, 9] (fun o z wr => ∃ (i : Nat), i ≤ K ∧ z = .int .i64 (i : Int) ∧ OI R0 wr o (firstL i) ∧ OI R0 wr (.slice (some ⟨R0 + 1, 0, none⟩) 0 0) [] ∧ Hid (¬ own o (R0 + 1)) ∧ Chg No w3 wr) (fun _ z _ => K - (intOf z).toNat)
      case atStart => exact ⟨0, Nat.zero_le _, rfl, hb0, hq0, Lib.hid (fun e => by have := own_slice.1 e; omega), kw0⟩
      case round =>
        clear hb0 hq0 kq0 kw0
        obtain ⟨i, hi, rfl, hb, hq, HO, kr⟩ := hrel
        have hi0 : (0 : Int) ≤ (i : Int) := Int.natCast_nonneg _
        have HFS := Lib.hid (firstL_succ i)
        have hfl := firstL_len i
        obtain ⟨B, hB⟩ : ∃ B, firstL i = B := ⟨_, rfl⟩
        rw [hB] at hb HFS hfl
        have HB := Lib.hid hB
        have HBL := Lib.hid hfl
        obtain ⟨ba, bc, rfl, _⟩ := hb.view
        have hl9 : B.length < 17592186044416 := by omega
        have z1 : R0 ≤ wr.heap.size := by have := kr.size; have := HR0.out; omega
        clear hB hfl
        by_cases hlt : i < K
        · have hi1 : (i : Int) < (K : Int) := by omega
          have hwi : IntKind.i64.wrap ((i : Int) + 1) = (i : Int) + 1 := IntWalk.i64_in _ (by omega)
          go_wp2_with (at_builtin; refine wapp1 rfl (.tmp 54) (.tmp 56) rfl hb rfl rfl hl9 z1 ?_)
          intro v5 w5 h5 k5 f5
          have hq5 := hq.step k5 (fun p hp e => by have := own_slice.1 hp; subst this; exact HO.out e)
          have hz1 := (hq.lt (R0 + 1) (own_slice.2 rfl)).2
          have HO5 : Hid (¬ own v5 (R0 + 1)) := Lib.hid (fun e => (f5 _ e).elim HO.out (fun h => by omega))
          have kr5 := kr.step k5 (fun p hp hl => by have := (hb.lt p hp).1; have := HR0.out; omega)
          rw [← HFS.out] at h5
          have H5 := Lib.hid h5
          clear h5 hb hq HO kr
          go_wp2_with fail
          go_round
          case rel => exact ⟨i + 1, hlt, by go_num, H5.out, hq5, HO5, kr5⟩
          case measure => simp [intOf]; omega
        · have hie : i = K := by omega
          have hi1 : ¬ (i : Int) < (K : Int) := by omega
          have hbK : firstL K = B := by rw [← hie]; exact HB.out
          have HBK := Lib.hid hbK
          have HBQ : Hid (∀ p, own (.slice ba B.length bc) p → ¬ own (.slice (some ⟨R0 + 1, 0, none⟩) 0 0) p) := Lib.hid (fun p hp e => by have := own_slice.1 e; subst this; exact HO.out hp)
          have hr' := hr.keep kr
          clear HO HB hbK
          obtain ⟨wo, hwo⟩ : ∃ wo : World, wo = wr := ⟨_, rfl⟩
          go_wp2_with fail
          rw [← hwo] at hb hq kr z1 ⊢
          clear hwo hr'
          go_loopw [8, 10] (fun o z wr => ∃ (i : Nat), i ≤ l.length ∧ i ≤ 40 ∧ z = .int .i64 (i : Int) ∧ OI R0 wr o (takQ N l i) ∧ OI R0 wr (.slice ba B.length bc) B ∧ Hid (∀ p, own (.slice ba B.length bc) p → ¬ own o p) ∧ Chg No w3 wr) (fun _ z _ => 40 - (intOf z).toNat)
          case atStart => exact ⟨0, Nat.zero_le _, by omega, rfl, hq, hb, HBQ, kr⟩
          case round =>
            clear hb hq HBQ kr z1
            obtain ⟨i, hi, hi40, rfl, hq, hb, HBQ, kr⟩ := hrel
            have hi0 : (0 : Int) ≤ (i : Int) := Int.natCast_nonneg _
            have z1 : R0 ≤ wr.heap.size := by have := kr.size; have := HR0.out; omega
            have HTN := Lib.hid (fun h1 h2 => takQ_no (n := (N : Int)) (l := l) (i := i) h1 h2)
            have HTY := Lib.hid (fun h1 h2 => takQ_yes (n := (N : Int)) (l := l) (i := i) h1 h2)
            have HTP := Lib.hid (And.intro (takQ_in (n := N) (by have := HKN.out.1; omega) l i) (takQ_len (N : Int) l i))
            obtain ⟨Q, hQ⟩ : ∃ Q, takQ N l i = Q := ⟨_, rfl⟩
            rw [hQ] at hq HTN HTY HTP
            obtain ⟨qa, qc, rfl, _⟩ := hq.view
            have hl9 : Q.length < 17592186044416 := by have := HTP.out.2; omega
            clear hQ
            by_cases hlt : i < l.length ∧ i < 40
            · obtain ⟨hlt, hlt2⟩ := hlt
              have hi1 : (i : Int) < (l.length : Int) := by omega
              have hi2 : (i : Int) < 40 := by omega
              have hwi : IntKind.i64.wrap ((i : Int) + 1) = (i : Int) + 1 := IntWalk.i64_in _ (by omega)
              obtain ⟨lb, lf, rfl, hlb, hcl⟩ := (hr.keep kr).cellN hlt
              have HLT := Lib.hid hlt
              obtain ⟨x, hx⟩ : ∃ x, l.getD i 0 = x := ⟨_, rfl⟩
              rw [hx] at hcl HTN HTY
              clear hx
              by_cases hx0 : 0 ≤ x
              · have HE := Lib.hid (HTY.out HLT.out hx0)
                go_wp2_with (at_builtin; refine wapp1 rfl (.tmp 73) (.tmp 80) rfl hq rfl rfl hl9 z1 ?_)
                intro v5 w5 h5 k5 f5
                have hb5 := hb.step k5 (fun p hp e => HBQ.out p hp e)
                have HB5 : Hid (∀ p, own (.slice ba B.length bc) p → ¬ own v5 p) := Lib.hid (fun p hp e => (f5 p e).elim (HBQ.out p hp) (fun h => by have := (hb.lt p hp).2; omega))
                have kr5 := kr.step k5 (fun p hp hl => by have := (hq.lt p hp).1; have := HR0.out; omega)
                rw [← HE.out] at h5
                have H5 := Lib.hid h5
                clear h5 hb hq HBQ kr hcl
                go_wp2_with fail
                go_round
                case rel => exact ⟨i + 1, hlt, by omega, by go_num, H5.out, hb5, HB5, kr5⟩
                case measure => simp [intOf]; omega
              · have HE := Lib.hid (HTN.out HLT.out hx0)
                go_wp2_with fail
                go_round
                case rel => exact ⟨i + 1, hlt, by omega, by go_num, by rw [HE.out]; exact hq, hb, HBQ, kr⟩
                case measure => simp [intOf]; omega
            · have hQ40 : Q.length ≤ 40 := by have := HTP.out.2; omega
              obtain ⟨least, cost, few, fau, G⟩ := pgServ HKN.out.1 ⟨HKN.out.2.1, HKN.out.2.2.1⟩ HKN.out.2.2.2 HTP.out.1 hQ40
              rw [HBK.out] at G
              have HG := Lib.hid G
              have e1 := G.e1
              have e2 := G.e2
              have e3 := G.e3
              have b1 := G.b1
              have b2 := G.b2
              have hbr := hb.readNo
              have hqr := hq.readNo
              clear hb hq HBQ G HTN HTY
              have hgu : i < l.length → ¬ i < 40 := fun h1 h2 => hlt ⟨h1, h2⟩
              clear hlt
              have kw := kk.keep kr
              by_cases hlt : i < l.length
              · have hi1 : (i : Int) < (l.length : Int) := by omega
                have hi2 : ¬ (i : Int) < 40 := by have := hgu hlt; omega
                clear hgu
                go_wp2_with fail
                have hN18 : 1 ≤ N ∧ N ≤ 6 := by have := HKN.out.1; omega
                refine (UniformMetric_any N 1 wr hN18 ⟨by omega, by omega⟩).mono ?_
                rintro e w6 ⟨_, _, rfl, ⟨mv, F6, rfl, hM⟩, rfl, k6⟩
                have hm6 := hM.readNo
                obtain ⟨ma, mc, rfl⟩ := hm6.shape
                have kw6 := kw.keep k6
                have hb6 := hbr.keep k6
                have hq6 := hqr.keep k6
                obtain ⟨J, hJ⟩ : ∃ J, B ++ Q = J := ⟨_, rfl⟩
                have HJ := Lib.hid hJ
                have G9 := HG.out
                have g1 := G9.serv
                have g2 := G9.hl
                have g3 := G9.hf
                have g4 := G9.pag
                have g5 := G9.hn
                have g6 := G9.ok
                have g7 := G9.hc
                rw [hJ] at g3 g4 g5 g6
                have GG := Lib.hid (And.intro g1 (And.intro g2 (And.intro g3 (And.intro g4 (And.intro g5 (And.intro g6 g7))))))
                subst e1
                have hw1 : IntKind.i64.wrap (few - (K : Int)) = few - (K : Int) := IntWalk.i64_in _ (by omega)
                have hw2 : IntKind.i64.wrap (fau - (K : Int)) = fau - (K : Int) := IntWalk.i64_in _ (by omega)
                clear g1 g2 g3 g4 g5 g6 g7 G9 hJ hM k6 hbr hqr kr kw hr
                go_wp2_with fail
                refine bx1 (R := fun W => Calls _ _ _ W _) (fun W7 k7 b7 => ?_)
                refine (LeastWork_any No No No _ _ _ (uniT N 1) B Q W7 (hm6.keep k7) (hb6.keep k7) (hq6.keep k7)).mono ?_
                rintro e w8 ⟨_, _, rfl, rfl, rfl, k8⟩
                rw [GG.out.1, if_pos rfl, GG.out.2.1]
                have k78 := k7.keep k8
                have kw8 := kw6.keep k78
                have hm8 := hm6.keep k78
                have hb8 := hb6.keep k78
                have hq8 := hq6.keep k78
                have b8 := b7.keep k8
                clear b7 k7 k8 k78 kw6 hm6 hb6 hq6
                go_wp2_with fail
                refine (Join_yes No No _ _ (N : Int) B Q w8 hb8 hq8 HG.out.join).mono ?_
                rintro e w9 ⟨jv, _, rfl, hj, rfl, k9⟩
                rw [HJ.out] at hj
                have hj9 := hj.readNo
                obtain ⟨ja, jc, rfl, _⟩ := id hj9
                have kw9 := kw8.keep k9
                have hm9 := hm8.keep k9
                have hb9 := hb8.keep k9
                have hq9 := hq8.keep k9
                have b9 := b8.keep k9
                clear hj b8 k9 kw8 hm8 hb8 hq8
                go_wp2_with fail
                refine (implFewest_any (K : Int) (N : Int) _ J w9 hj9).mono ?_
                rintro e w10 ⟨_, _, rfl, rfl, rfl, k10⟩
                rw [GG.out.2.2.1, GG.out.2.2.2.1]
                have kw10 := kw9.keep k10
                have hm10 := hm9.keep k10
                have hb10 := hb9.keep k10
                have hq10 := hq9.keep k10
                have b10 := b9.keep k10
                have hj10 := hj9.keep k10
                have q0 := b10.c 0 _ rfl
                clear b9 k10 kw9 hm9 hb9 hq9 hj9
                go_wp2_with fail
                refine (WorkRun_yes No No No _ _ _ (uniT N 1) B Q w10 hm10 hb10 hq10 GG.out.1).mono ?_
                rintro e w11 ⟨wv, _, _, rfl, ⟨F11, h11⟩, rfl, rfl, k11⟩
                rw [GG.out.2.2.2.2.2.2]
                obtain ⟨wa, wc, rfl⟩ := h11.readNo.shape
                have kw11 := kw10.keep k11
                have hj11 := hj10.keep k11
                clear b10 q0 k11 kw10 hm10 hb10 hq10 hj10 h11
                have hi1 : inB (N : Int) 1 8 = true := inB_iff.2 (by omega)
                have hi2 : inB (1 : Int) 1 7 = true := inB_iff.2 (by omega)
                have hi3 : inB (K : Int) 1 6 = true := inB_iff.2 (by have := HKN.out.2; omega)
                have HNC := Lib.hid (implNewCache_any (N : Int) 1 (K : Int) w11 hi1 hi2 hi3)
                clear hi1 hi2 hi3
                go_wp2_with fail
                refine HNC.out.mono ?_
                rintro e w12 ⟨_, _, rfl, rfl, rfl, k12⟩
                have kw12 := kw11.keep k12
                have hj12 := hj11.keep k12
                clear k12 kw11 hj11
                go_wp2_with fail
                refine bx1 (R := fun W => Calls _ _ _ W _) (fun W13 k13 b13 => ?_)
                have hrc : RC No W13 (.agg #[.int .i64 1, .int .i64 (K : Int), .slice none 0 0, .slice none 0 0, .int .i64 0]) (newC 1 (K : Int)) := ⟨_, _, rfl, RI.nil _ _, RI.nil _ _⟩
                refine (implRunCache_any (N : Int) _ _ (newC 1 (K : Int)) J W13 hrc (hj12.keep k13)).mono ?_
                rintro e w14 ⟨v0, _, _, rfl, rfl, rfl, hco, k14⟩
                rw [GG.out.2.2.2.2.1, GG.out.2.2.2.2.2.1]
                have kw14 := (kw12.keep k13).keep k14
                obtain ⟨y0, y1, pa, pn, pc, ma', mn', mc', y4, rfl⟩ : ∃ (y0 y1 : Int) (pa : Option Addr) (pn pc : Nat) (ma' : Option Addr) (mn' mc' : Nat) (y4 : Int), v0 = .agg #[.int .i64 y0, .int .i64 y1, .slice pa pn pc, .slice ma' mn' mc', .int .i64 y4] := by
                  obtain ⟨pv, mv', rfl, hp1, hp2, _⟩ := hco
                  obtain ⟨_, _, _, rfl⟩ := hp1.shape
                  obtain ⟨_, _, _, rfl⟩ := hp2.shape
                  exact ⟨_, _, _, _, _, _, _, _, _, rfl⟩
                have kw15 := kw14.alloc (.cells #[.int .i64 y0, .int .i64 y1, .slice pa pn pc, .slice ma' mn' mc', .int .i64 y4] 42)
                clear hco hrc b13 k13 k14 hj12 kw12 kw14
                go_wp2_with fail
                go_ret
                exact ⟨rfl, kw15⟩
              · have hi1 : ¬ (i : Int) < (l.length : Int) := by omega
                clear hgu
                go_wp2_with fail
                have hN18 : 1 ≤ N ∧ N ≤ 6 := by have := HKN.out.1; omega
                refine (UniformMetric_any N 1 wr hN18 ⟨by omega, by omega⟩).mono ?_
                rintro e w6 ⟨_, _, rfl, ⟨mv, F6, rfl, hM⟩, rfl, k6⟩
                have hm6 := hM.readNo
                obtain ⟨ma, mc, rfl⟩ := hm6.shape
                have kw6 := kw.keep k6
                have hb6 := hbr.keep k6
                have hq6 := hqr.keep k6
                obtain ⟨J, hJ⟩ : ∃ J, B ++ Q = J := ⟨_, rfl⟩
                have HJ := Lib.hid hJ
                have G9 := HG.out
                have g1 := G9.serv
                have g2 := G9.hl
                have g3 := G9.hf
                have g4 := G9.pag
                have g5 := G9.hn
                have g6 := G9.ok
                have g7 := G9.hc
                rw [hJ] at g3 g4 g5 g6
                have GG := Lib.hid (And.intro g1 (And.intro g2 (And.intro g3 (And.intro g4 (And.intro g5 (And.intro g6 g7))))))
                subst e1
                have hw1 : IntKind.i64.wrap (few - (K : Int)) = few - (K : Int) := IntWalk.i64_in _ (by omega)
                have hw2 : IntKind.i64.wrap (fau - (K : Int)) = fau - (K : Int) := IntWalk.i64_in _ (by omega)
                clear g1 g2 g3 g4 g5 g6 g7 G9 hJ hM k6 hbr hqr kr kw hr
                go_wp2_with fail
                refine bx1 (R := fun W => Calls _ _ _ W _) (fun W7 k7 b7 => ?_)
                refine (LeastWork_any No No No _ _ _ (uniT N 1) B Q W7 (hm6.keep k7) (hb6.keep k7) (hq6.keep k7)).mono ?_
                rintro e w8 ⟨_, _, rfl, rfl, rfl, k8⟩
                rw [GG.out.1, if_pos rfl, GG.out.2.1]
                have k78 := k7.keep k8
                have kw8 := kw6.keep k78
                have hm8 := hm6.keep k78
                have hb8 := hb6.keep k78
                have hq8 := hq6.keep k78
                have b8 := b7.keep k8
                clear b7 k7 k8 k78 kw6 hm6 hb6 hq6
                go_wp2_with fail
                refine (Join_yes No No _ _ (N : Int) B Q w8 hb8 hq8 HG.out.join).mono ?_
                rintro e w9 ⟨jv, _, rfl, hj, rfl, k9⟩
                rw [HJ.out] at hj
                have hj9 := hj.readNo
                obtain ⟨ja, jc, rfl, _⟩ := id hj9
                have kw9 := kw8.keep k9
                have hm9 := hm8.keep k9
                have hb9 := hb8.keep k9
                have hq9 := hq8.keep k9
                have b9 := b8.keep k9
                clear hj b8 k9 kw8 hm8 hb8 hq8
                go_wp2_with fail
                refine (implFewest_any (K : Int) (N : Int) _ J w9 hj9).mono ?_
                rintro e w10 ⟨_, _, rfl, rfl, rfl, k10⟩
                rw [GG.out.2.2.1, GG.out.2.2.2.1]
                have kw10 := kw9.keep k10
                have hm10 := hm9.keep k10
                have hb10 := hb9.keep k10
                have hq10 := hq9.keep k10
                have b10 := b9.keep k10
                have hj10 := hj9.keep k10
                have q0 := b10.c 0 _ rfl
                clear b9 k10 kw9 hm9 hb9 hq9 hj9
                go_wp2_with fail
                refine (WorkRun_yes No No No _ _ _ (uniT N 1) B Q w10 hm10 hb10 hq10 GG.out.1).mono ?_
                rintro e w11 ⟨wv, _, _, rfl, ⟨F11, h11⟩, rfl, rfl, k11⟩
                rw [GG.out.2.2.2.2.2.2]
                obtain ⟨wa, wc, rfl⟩ := h11.readNo.shape
                have kw11 := kw10.keep k11
                have hj11 := hj10.keep k11
                clear b10 q0 k11 kw10 hm10 hb10 hq10 hj10 h11
                have hi1 : inB (N : Int) 1 8 = true := inB_iff.2 (by omega)
                have hi2 : inB (1 : Int) 1 7 = true := inB_iff.2 (by omega)
                have hi3 : inB (K : Int) 1 6 = true := inB_iff.2 (by have := HKN.out.2; omega)
                have HNC := Lib.hid (implNewCache_any (N : Int) 1 (K : Int) w11 hi1 hi2 hi3)
                clear hi1 hi2 hi3
                go_wp2_with fail
                refine HNC.out.mono ?_
                rintro e w12 ⟨_, _, rfl, rfl, rfl, k12⟩
                have kw12 := kw11.keep k12
                have hj12 := hj11.keep k12
                clear k12 kw11 hj11
                go_wp2_with fail
                refine bx1 (R := fun W => Calls _ _ _ W _) (fun W13 k13 b13 => ?_)
                have hrc : RC No W13 (.agg #[.int .i64 1, .int .i64 (K : Int), .slice none 0 0, .slice none 0 0, .int .i64 0]) (newC 1 (K : Int)) := ⟨_, _, rfl, RI.nil _ _, RI.nil _ _⟩
                refine (implRunCache_any (N : Int) _ _ (newC 1 (K : Int)) J W13 hrc (hj12.keep k13)).mono ?_
                rintro e w14 ⟨v0, _, _, rfl, rfl, rfl, hco, k14⟩
                rw [GG.out.2.2.2.2.1, GG.out.2.2.2.2.2.1]
                have kw14 := (kw12.keep k13).keep k14
                obtain ⟨y0, y1, pa, pn, pc, ma', mn', mc', y4, rfl⟩ : ∃ (y0 y1 : Int) (pa : Option Addr) (pn pc : Nat) (ma' : Option Addr) (mn' mc' : Nat) (y4 : Int), v0 = .agg #[.int .i64 y0, .int .i64 y1, .slice pa pn pc, .slice ma' mn' mc', .int .i64 y4] := by
                  obtain ⟨pv, mv', rfl, hp1, hp2, _⟩ := hco
                  obtain ⟨_, _, _, rfl⟩ := hp1.shape
                  obtain ⟨_, _, _, rfl⟩ := hp2.shape
                  exact ⟨_, _, _, _, _, _, _, _, _, rfl⟩
                have kw15 := kw14.alloc (.cells #[.int .i64 y0, .int .i64 y1, .slice pa pn pc, .slice ma' mn' mc', .int .i64 y4] 42)
                clear hco hrc b13 k13 k14 hj12 kw12 kw14
                go_wp2_with fail
                go_ret
                exact ⟨rfl, kw15⟩
end Go.Proofs.YtdgcohoneijleaaGreat
