import Derived.Test.YtndhijckbponkaaQm
import Derived.Test.YtndhijckbponkaaQi
import Derived.Test.YtndhijckbponkaaQo
import Derived.ChangeKeysEq
/- the law FnIndependent -/
namespace Go.Proofs.Ytndhijckbponkaa
open Go.RowKit

theorem eqInt_runQ (d : Nat) (x : Int) (W : World) : (Op.equalIn (d + 1) 3 (.int .i64 x) (.int .i64 x)).run Try.prog W = .ok true W := by
  simp [Op.equalIn, run_underlying Try.underlying3]
set_option maxRecDepth 100000 in
theorem eqFr_runQ' (d : Nat) (x y : Int) (W : World) : (Op.equalIn (d + 1 + 1) 46 (.agg #[.int .i64 x, .int .i64 y]) (.agg #[.int .i64 x, .int .i64 y])).run Try.prog W = .ok true W := by
  have p0 : (Go.part 3 #[.int .i64 x, .int .i64 y] 0).run Try.prog W = .ok (.int .i64 x) W := by kernel_rfl
  have p1 : (Go.part 3 #[.int .i64 x, .int .i64 y] 1).run Try.prog W = .ok (.int .i64 y) W := by kernel_rfl
  have e0 := eqInt_runQ d x W
  have e1 := eqInt_runQ d y W
  have hs : Try.prog.stoodInHeld 46 = false := by kernel_rfl
  unfold Op.equalIn
  simp [run_underlying Try.underlying46, hs, p0, p1, e0, e1]
theorem eqFr_runQ (x y : Int) (W : World) : (Op.equalIn 10000 46 (.agg #[.int .i64 x, .int .i64 y]) (.agg #[.int .i64 x, .int .i64 y])).run Try.prog W = .ok true W := eqFr_runQ' 9998 x y W
theorem RI.cellQ {A : Nat → Prop} {w : World} {b off n cap : Nat} {l : List Int} (h : RI A w (.slice (some ⟨b, off, none⟩) n cap) l) {j : Nat} (hj : j < l.length) : w.cell? ⟨b, off + j, none⟩ = some (.int .i64 (l.getD j 0)) := by
  obtain ⟨b', off', e, _, h2⟩ := h.cellN hj
  simp only [Option.some.injEq, Addr.mk.injEq, and_true] at e
  obtain ⟨rfl, rfl⟩ := e
  exact h2
def Cst (N : Nat) (l : List Int) (i : Nat) (cs : Chs) : Prop := (N = 1 ∧ cs = cs1 (wOf l) i) ∨ (N = 2 ∧ cs = cs2 (wOf l) l.length i) ∨ (N ≠ 1 ∧ N ≠ 2 ∧ cs = [])
theorem cst_zero (N : Nat) (l : List Int) : Cst N l 0 [] := by
  unfold Cst
  by_cases h1 : N = 1
  · exact .inl ⟨h1, rfl⟩
  · by_cases h2 : N = 2
    · exact .inr (.inl ⟨h2, rfl⟩)
    · exact .inr (.inr ⟨h1, h2, rfl⟩)
theorem cst_bex {m s : List (List Int)} {S N : Nat} {l : List Int} {cs : Chs} (hi : indB ⟨m, s⟩ (S : Int) l (N : Int) = true) (hl : l.length = s.length) (hc : Cst N l l.length cs)
    (hok : (bexV ⟨m, s⟩ (S : Int) (cs.map Prod.fst) (cs.map Prod.snd)).ok = true) : bexV ⟨m, s⟩ (S : Int) (cs.map Prod.fst) (cs.map Prod.snd) = indV ⟨m, s⟩ (S : Int) l (N : Int) := by
  rw [hl] at hc
  rcases hc with ⟨h1, h2⟩ | ⟨h1, h2⟩ | ⟨_, _, h2⟩
  · exact bex_ind hi ⟨by rw [h1, h2]; exact cs1_lenW _ _, .inl ⟨h1, h2⟩⟩ hok
  · rw [← hl] at h2
    exact bex_ind hi ⟨by rw [h1, h2]; exact cs2_lenW _ _ _, .inr ⟨h1, by rw [h2, hl]⟩⟩ hok
  · rw [h2, show ([] : Chs).map Prod.fst = [] from rfl, show ([] : Chs).map Prod.snd = [] from rfl, bex_nil] at hok
    cases hok
set_option maxRecDepth 100000 in
set_option maxHeartbeats 4000000 in
theorem law_FnIndependent (v : Value) (n : Nat) (w : World) (h : Code w v n) :
    Calls Try.prog 4 #[v] w fun e w' => e = .returned (.bool true) ∧ Chg No w w' := by
  obtain ⟨ca, cc, rfl⟩ := h.shape
  go_enter Try.func4, Try.ntmps4
  go_wp2_with fail
  refine (vBig_any _ n w h).mono ?_
  rintro e w1 ⟨rfl, rfl⟩
  by_cases hbig : (65536 : Int) < (n : Int)
  · rw [decide_eq_true hbig]
    go_wp2_with fail
    go_ret
    exact ⟨rfl, Chg.refl _ _⟩
  · rw [decide_eq_false hbig]
    go_wp2_with fail
    refine (DrawIndep_any _ n w1 h (by omega)).mono ?_
    rintro e w2 ⟨pv, wv, st, L, P, l, rfl, hP, hw, hl41, hL0, hL4, k2⟩
    obtain ⟨m, s⟩ := P
    obtain ⟨mv, sv, rfl, hm, hs⟩ := id hP
    dsimp only at hm hs
    obtain ⟨ma, mc, rfl, _⟩ := hm.view
    obtain ⟨sa, sc, rfl, _⟩ := hs.view
    obtain ⟨wa, wc, rfl, _⟩ := id hw
    clear hm hs
    go_wp2_with fail
    have ka := (Chg.refl No w2).alloc (.cells #[.slice ma m.length mc, .slice sa s.length sc] 32)
    have bP := BoxN.new w2 #[.slice ma m.length mc, .slice sa s.length sc] 32
    obtain ⟨X, hX⟩ : ∃ X, w2.heap.size = X := ⟨_, rfl⟩
    rw [hX] at bP ⊢
    replace hP := hP.keep ka
    replace hw := hw.keep ka
    have kk := k2.keep ka
    clear ka hX k2
    generalize w2.alloc _ = w3 at bP hP hw kk ⊢
    refine (implIndependentBest_any No No _ _ ⟨m, s⟩ st l L w3 hP hw).mono ?_
    rintro e w4 ⟨_, _, rfl, rfl, rfl, k4⟩
    obtain ⟨fr, hfr⟩ : ∃ fr, indV ⟨m, s⟩ st l L = fr := ⟨_, rfl⟩
    rw [hfr]
    have HFR := Lib.hid hfr
    clear hfr
    replace bP := bP.keep k4
    replace hP := hP.keep k4
    replace hw := hw.keep k4
    replace kk := kk.keep k4
    have p0 := bP.c 0 _ rfl
    have p1 := bP.c 1 _ rfl
    have hXl := bP.lt
    have n1 : ¬ X = w4.heap.size := by omega
    have n1' : ¬ w4.heap.size = X := by omega
    clear k4
    go_wp2_with fail
    have ka := (Chg.refl No w4).alloc (.cells #[.int .i64 fr.num, .int .i64 fr.den] 46)
    have b7 := BoxN.new w4 #[.int .i64 fr.num, .int .i64 fr.den] 46
    obtain ⟨Y, hY⟩ : ∃ Y, w4.heap.size = Y := ⟨_, rfl⟩
    rw [hY] at b7 ⊢
    replace bP := bP.keep ka
    replace hP := hP.keep ka
    replace hw := hw.keep ka
    replace kk := kk.keep ka
    clear ka hY n1 n1' p0 p1 hXl
    generalize w4.alloc _ = w5 at b7 bP hP hw kk ⊢
    refine (specIndependentBest_any No No _ _ ⟨m, s⟩ st l L w5 hP hw).mono ?_
    rintro e w6 ⟨_, _, rfl, rfl, rfl, k6⟩
    rw [HFR.out]
    replace b7 := b7.keep k6
    replace bP := bP.keep k6
    replace hP := hP.keep k6
    replace hw := hw.keep k6
    replace kk := kk.keep k6
    have q0 := b7.c 0 _ rfl
    have q1 := b7.c 1 _ rfl
    have hYl := b7.lt
    have n1 : ¬ Y = w6.heap.size := by omega
    have n1' : ¬ w6.heap.size = Y := by omega
    have hbb : (fr.ok != fr.ok) = false := bne_self_eq_false _
    have hef := fun W => eqFr_runQ fr.num fr.den W
    clear k6
    go_wp2_with fail
    refine bx2 (R := fun W => Code.wp _ _ _ _ W) (fun W0 k0 b9 b11 => ?_)
    have hx6 := bP.lt
    have hk6 := kk.size
    have hPX : RPr (fun q => q = w6.heap.size + 1) w6 _ _ := hP.weak (fun k e hl => by have e : k = w6.heap.size + 1 := e; omega)
    have hwX : RI (fun q => q = w6.heap.size + 1) w6 _ _ := hw.weak (fun k e hl => by have e : k = w6.heap.size + 1 := e; omega)
    replace hPX := hPX.keep k0
    replace hwX := hwX.keep k0
    replace b7 := b7.keep k0
    replace bP := bP.keep k0
    replace hP := hP.keep k0
    replace hw := hw.keep k0
    replace kk := kk.keep k0
    obtain ⟨X11, hX11⟩ : ∃ X11, w6.heap.size + 1 = X11 := ⟨_, rfl⟩
    rw [hX11] at b11 hPX hwX ⊢
    have hXX : ¬ X = X11 := by omega
    have hYX : ¬ Y = X11 := by omega
    have hWX := Nat.le_trans hk6 (show w6.heap.size ≤ X11 by omega)
    clear q0 q1 hx6 hk6 hYl n1 n1' k0 hX11 b9 hef hbb
    cases hok : fr.ok
    · go_loopw [12] (fun z wr => z = .int .i64 0 ∧ wr = W0) (fun _ _ => 0)
      case atStart => exact ⟨rfl, rfl⟩
      case round =>
        obtain ⟨rfl, rfl⟩ := hrel
        obtain ⟨cs, hcs⟩ : ∃ cs : Chs, [] = cs := ⟨_, rfl⟩
        have how : RI No wr (.slice none 0 0) (cs.map Prod.snd) := by rw [← hcs]; exact RI.nil _ _
        have hoq : RII No wr (.slice none 0 0) (cs.map Prod.fst) := by rw [← hcs]; exact RII.nil _ _
        have hBE : (bexV ⟨m, s⟩ st (cs.map Prod.fst) (cs.map Prod.snd)).ok = true → bexV ⟨m, s⟩ st (cs.map Prod.fst) (cs.map Prod.snd) = fr := by
          rw [← hcs]; intro e; rw [show ([] : Chs).map Prod.fst = [] from rfl, show ([] : Chs).map Prod.snd = [] from rfl, bex_nil] at e; cases e
        have hbP := bP
        have hbx := b11
        have hb7 := b7
        have hPE := hP
        have kkE := kk
        obtain ⟨qs, hqs⟩ : ∃ qs, cs.map Prod.fst = qs := ⟨_, rfl⟩
        obtain ⟨ws, hws⟩ : ∃ ws, cs.map Prod.snd = ws := ⟨_, rfl⟩
        rw [hqs] at hoq hBE
        rw [hws] at how hBE
        clear hcs hqs hws
        have e0 := hbP.c 0 _ rfl
        have e1 := hbP.c 1 _ rfl
        have e2 := hbx.c 0 _ rfl
        have e3 := hbx.c 1 _ rfl
        obtain ⟨bv, hbv⟩ : ∃ bv, bexV ⟨m, s⟩ st qs ws = bv := ⟨_, rfl⟩
        have HBV := Lib.hid hbv
        have HE := Lib.hid hBE
        rw [hbv] at HE
        clear hbv hBE
        go_wp2_with fail
        refine (implBestExpected_any No _ _ ⟨m, s⟩ st qs ws wr hPE ⟨_, _, rfl, how, hoq⟩).mono ?_
        rintro e w8 ⟨_, _, rfl, rfl, rfl, k8⟩
        rw [HBV.out]
        have hb8 := hb7.keep k8
        have e4 := hb8.c 0 _ rfl
        have e5 := hb8.c 1 _ rfl
        have n8l := hb8.lt
        have n8 : ¬ Y = w8.heap.size := by omega
        have n8' : ¬ w8.heap.size = Y := by omega
        have kk8 := kkE.keep k8
        have ka8 := kk8.alloc (.cells #[.int .i64 bv.num, .int .i64 bv.den] 46)
        cases hbo : bv.ok
        · go_wp2_with fail
          go_ret
          exact ⟨rfl, ka8⟩
        · have hbf := HE.out hbo
          subst hbf
          have hef := fun W => eqFr_runQ bv.num bv.den W
          go_wp2_with fail
          go_ret
          exact ⟨rfl, ka8⟩
    · have hi : indB ⟨m, s⟩ st l L = true := by
        cases e : indB ⟨m, s⟩ st l L
        · have := HFR.out
          unfold indV at this
          rw [e] at this
          rw [← this] at hok
          cases hok
        · rfl
      obtain ⟨g, hs0, hs1, hL0', hL3, hW1⟩ := indB_facts hi
      obtain ⟨N, rfl⟩ : ∃ N : Nat, L = (N : Int) := ⟨L.toNat, by omega⟩
      obtain ⟨S, rfl⟩ : ∃ S : Nat, st = (S : Int) := ⟨st.toNat, by omega⟩
      have hln : l.length = s.length := g.len
      have hl4 : l.length ≤ 4 := by have h1 := g.pr.bnd.2.1.2; have h2 : s.length ≤ 4 := h1; omega
      have HI := Lib.hid hi
      have HG := Lib.hid g
      have HOK := Lib.hid hok
      have hD := ChD.start b11 rfl
      obtain ⟨Z, hZ⟩ : ∃ Z, W0.heap.size = Z := ⟨_, rfl⟩
      rw [hZ] at hD
      have HBE : Hid (∀ cs : Chs, Cst N l l.length cs → (bexV ⟨m, s⟩ (S : Int) (cs.map Prod.fst) (cs.map Prod.snd)).ok = true → bexV ⟨m, s⟩ (S : Int) (cs.map Prod.fst) (cs.map Prod.snd) = fr) := Lib.hid (fun cs hc ho => (cst_bex hi hln hc ho).trans HFR.out)
      have HLS := Lib.hid hln
      clear hi g hs0 hs1 hL0' hW1 hok hZ hL0 hL4 hl41 HFR hln
      go_loopw [12] (fun z wr => ∃ (i : Nat) (cs : Chs) (wv qv : Value) (F : Nat → Prop), i ≤ l.length ∧ z = .int .i64 (i : Int) ∧ Hid (Cst N l i cs) ∧ Hid (cs.length ≤ 5 * i) ∧ ChD Z X11 W0 wr wv qv (cs.map Prod.fst) (cs.map Prod.snd) F) (fun z _ => l.length - (intOf z).toNat)
      case atStart => exact ⟨0, [], _, _, _, Nat.zero_le _, rfl, Lib.hid (cst_zero N l), Lib.hid (Nat.zero_le _), hD⟩
      case round =>
        clear hD
        obtain ⟨i, cs, wv, qv, F, hil, rfl, HC, HLN, hD⟩ := hrel
        have hi0 : (0 : Int) ≤ (i : Int) := Int.natCast_nonneg _
        by_cases hlt : i < l.length
        · have hi1 : (i : Int) < (l.length : Int) := by omega
          have hwi : IntKind.i64.wrap ((i : Int) + 1) = (i : Int) + 1 := IntWalk.i64_in _ (by omega)
          have hwr := hwX.step hD.kk (fun q e => e)
          obtain ⟨wb, wf, hwa, hwbl, hcw⟩ := hwr.cellN hlt
          subst hwa
          have hx9 := HG.out.w9 i hlt
          by_cases h2 : N = 2
          · have hq2 : ((N : Int) == 2) = true := by rw [h2]; rfl
            have hq1 : ((N : Int) == 1) = false := beq_eq_false_iff_ne.2 (by omega)
            have HCI : Hid (cs = cs2 (wOf l) l.length i) := Lib.hid (by
              rcases HC.out with ⟨h, _⟩ | ⟨_, e⟩ | ⟨_, h, _⟩
              · omega
              · exact e
              · exact absurd h2 h)
            have HN2 := Lib.hid h2
            obtain ⟨x, hx⟩ : ∃ x, l.getD i 0 = x := ⟨_, rfl⟩
            rw [hx] at hcw hx9
            have HX := Lib.hid hx
            clear h2 hx hwr hcw HC
            go_wp2_with fail
            go_loopw [13] (fun z wr => ∃ (k : Nat) (ds : Chs) (wv qv : Value) (F : Nat → Prop), k ≤ l.length ∧ z = .int .i64 (k : Int) ∧ Hid (ds = cs2 (wOf l) l.length i ++ cs2row (wOf l) i k) ∧ Hid (ds.length ≤ 5 * i + k) ∧ ChD Z X11 W0 wr wv qv (ds.map Prod.fst) (ds.map Prod.snd) F) (fun z _ => l.length - (intOf z).toNat)
            case atStart => exact ⟨0, cs, _, _, _, Nat.zero_le _, rfl, Lib.hid (by rw [HCI.out]; exact (List.append_nil _).symm), HLN, hD⟩
            case round =>
              clear hD HCI HLN cs
              obtain ⟨k, ds, wv, qv, F, hkl, rfl, HD, HLN, hD⟩ := hrel
              have hk0 : (0 : Int) ≤ (k : Int) := Int.natCast_nonneg _
              by_cases hlk : k < l.length
              · have hk1 : (k : Int) < (l.length : Int) := by omega
                have hwk : IntKind.i64.wrap ((k : Int) + 1) = (k : Int) + 1 := IntWalk.i64_in _ (by omega)
                have hwr := hwX.step hD.kk (fun q e => e)
                have hcx := hwr.cellQ hlt
                have hcy := hwr.cellQ hlk
                have hy9 := HG.out.w9 k hlk
                rw [HX.out] at hcx
                obtain ⟨y, hy⟩ : ∃ y, l.getD k 0 = y := ⟨_, rfl⟩
                rw [hy] at hcy hy9
                have HY := Lib.hid hy
                obtain ⟨pr, hpr⟩ : ∃ pr, x * y = pr := ⟨_, rfl⟩
                have HPR := Lib.hid hpr
                have hp9 : 0 ≤ pr ∧ pr ≤ 81 := by
                  rw [← hpr]
                  refine ⟨Int.mul_nonneg hx9.1 hy9.1, ?_⟩
                  have e1 : x * y ≤ 9 * y := Int.mul_le_mul_of_nonneg_right hx9.2 hy9.1
                  omega
                have hwp : IntKind.i64.wrap (x * y) = pr := (IntWalk.i64_in _ (by omega)).trans hpr
                have HWP : Hid (wOf l i * wOf l k = pr) := Lib.hid (by rw [show wOf l i = x from HX.out, show wOf l k = y from HY.out]; exact HPR.out)
                clear hy hpr hwr
                obtain ⟨wo, hwo⟩ : ∃ wo : World, wo = wr := ⟨_, rfl⟩
                by_cases hp0 : 0 < pr
                · have HD' : Hid (ds ++ [([(i : Int), (k : Int)], pr)] = cs2 (wOf l) l.length i ++ cs2row (wOf l) i (k + 1)) := Lib.hid (by
                    rw [HD.out]
                    show _ = _ ++ (cs2row (wOf l) i k ++ _)
                    rw [HWP.out, if_pos hp0, List.append_assoc])
                  have HLN' : Hid ((ds ++ [([(i : Int), (k : Int)], pr)]).length ≤ 5 * i + (k + 1)) := Lib.hid (by have := HLN.out; rw [List.length_append, List.length_singleton]; omega)
                  obtain ⟨qs, hqs⟩ : ∃ qs, ds.map Prod.fst = qs := ⟨_, rfl⟩
                  obtain ⟨ws, hws⟩ : ∃ ws, ds.map Prod.snd = ws := ⟨_, rfl⟩
                  have HQS : Hid ((ds ++ [([(i : Int), (k : Int)], pr)]).map Prod.fst = qs ++ [[(i : Int), (k : Int)]] ∧ (ds ++ [([(i : Int), (k : Int)], pr)]).map Prod.snd = ws ++ [pr]) := Lib.hid (by rw [List.map_append, List.map_append, hqs, hws]; exact ⟨rfl, rfl⟩)
                  have HLL : Hid (qs.length ≤ 40 ∧ ws.length ≤ 40) := Lib.hid (by have := HLN.out; rw [← hqs, ← hws, List.length_map, List.length_map]; omega)
                  rw [hqs, hws] at hD
                  clear hqs hws HD HLN
                  obtain ⟨va, vc, rfl⟩ := hD.oq.readNo.shape
                  obtain ⟨ua, un, uc, rfl⟩ := hD.ow.shape
                  go_wp2_with fail
                  go_quiet (fail)
                  replace hD := hD.keep ((Chg.refl No wr).drewN nq)
                  generalize World.drewN _ _ = WQ at hD ⊢
                  have g1 := hD.bx.c 1 _ rfl
                  have hZw : Z ≤ WQ.heap.size := by have e1 := hD.kk.size; have e2 := hD.sz; omega
                  have ka := (Chg.refl No WQ).alloc (.cells #[.int .i64 (i : Int), .int .i64 (k : Int)] 3)
                  have hO := hD.oq.keep ka
                  have hx1 := OI.two (a := (i : Int)) (b := (k : Int)) hZw
                  have hd1 : ∀ q, own (Value.slice (some ⟨WQ.heap.size, 0, none⟩) 2 2) q → ¬ F q := fun q hq e => by have := (hD.oq.lt q e).2; have hq : some WQ.heap.size = some q := hq; rw [Option.some.injEq] at hq; omega
                  have hd2 : ∀ q, own (Value.slice (some ⟨WQ.heap.size, 0, none⟩) 2 2) q → WQ.heap.size ≤ q := fun q hq => by have hq : some WQ.heap.size = some q := hq; rw [Option.some.injEq] at hq; omega
                  have hlen : qs.length < 1099511627776 := by have := HLL.out; omega
                  clear hcx hcy
                  go_wp2_with (at_builtin; refine wappRz (z := WQ.heap.size + 1) (by simp) rfl (.tmp 82) (.tmp 86) rfl hO hx1 hd1 rfl rfl hlen (by omega) ?_)
                  intro v3 w3 F3 h3 k3 hF3 hFo
                  have hF3' : ∀ q, F3 q → F q ∨ own (Value.slice (some ⟨WQ.heap.size, 0, none⟩) 2 2) q ∨ (WQ.alloc (.cells #[.int .i64 (i : Int), .int .i64 (k : Int)] 3)).heap.size ≤ q := fun q hq => (hF3 q hq).imp id (Or.imp id (fun e => Nat.le_trans (Nat.le_of_eq (by simp)) e))
                  obtain ⟨hN, hbx3⟩ := hD.row ka hd2 h3 k3 hF3' hFo
                  have g3 := hbx3.c 1 _ rfl
                  have f3 := hbx3.fr 1
                  have g30 := hbx3.c 0 _ rfl
                  obtain ⟨v3a, v3c, rfl⟩ := h3.readNo.shape
                  have hL1 : (qs ++ [[(i : Int), (k : Int)]]).length = qs.length + 1 := by rw [List.length_append]; rfl
                  rw [hL1] at hN ⊢
                  have hO2 := hN.ow
                  have hlw : ws.length < 17592186044416 := by have := HLL.out; omega
                  have hZ3 : Z ≤ w3.heap.size := by have := k3.size; have := ka.size; omega
                  clear hL1 hD h3 k3 hF3 hF3' hFo hO hx1 hd1 hd2 ka hbx3 g1 hlen hZw
                  go_wp2_with (at_builtin; refine wapp1z (z := w3.heap.size) (by simp) rfl (.tmp 90) (.tmp 92) rfl hO2 rfl rfl hlw hZ3 ?_)
                  intro v4 w4 h4 k4 f4
                  obtain ⟨hR, hbx4⟩ := hN.num h4 k4 (fun q hq => (f4 q hq).imp id (fun e => Nat.le_trans (Nat.le_of_eq (by simp)) e))
                  obtain ⟨a4, n4, c4, rfl⟩ := h4.shape
                  have z0 := hbx4.c 0 _ rfl
                  have f0 := hbx4.fr 0
                  clear hN hO2 h4 k4 f4 hbx4 g3 f3 g30 hlw hZ3
                  go_wp2_with fail
                  go_round
                  case rel => exact ⟨k + 1, _, _, _, F3, by omega, by go_num, HD', HLN', by rw [HQS.out.1, HQS.out.2]; exact hR⟩
                  case measure => simp [intOf]; omega
                · have HD' : Hid (ds = cs2 (wOf l) l.length i ++ cs2row (wOf l) i (k + 1)) := Lib.hid (by
                    rw [HD.out]
                    show _ = _ ++ (cs2row (wOf l) i k ++ _)
                    rw [HWP.out, if_neg hp0, List.append_nil])
                  have HLN' : Hid (ds.length ≤ 5 * i + (k + 1)) := Lib.hid (by have := HLN.out; omega)
                  go_wp2_with fail
                  go_quiet (fail)
                  replace hD := hD.keep ((Chg.refl No wr).drewN nq)
                  generalize World.drewN _ _ = WQ at hD ⊢
                  clear hcx hcy
                  go_wp2_with fail
                  go_round
                  case rel => exact ⟨k + 1, ds, wv, qv, F, by omega, by go_num, HD', HLN', hD⟩
                  case measure => simp [intOf]; omega
              · have hke : k = l.length := by omega
                subst hke
                have HC' : Hid (Cst N l (i + 1) ds) := Lib.hid (.inr (.inl ⟨HN2.out, HD.out⟩))
                have HLN' : Hid (ds.length ≤ 5 * (i + 1)) := Lib.hid (by have := HLN.out; omega)
                go_wp2_with fail
                go_round
                case rel => exact ⟨i + 1, ds, wv, qv, F, by omega, by go_num, HC', HLN', hD⟩
                case measure => simp [intOf]; omega
          · by_cases h1 : N = 1
            · have hq2 : ((N : Int) == 2) = false := beq_eq_false_iff_ne.2 (by omega)
              have hq1 : ((N : Int) == 1) = true := by rw [h1]; rfl
              obtain ⟨x, hx⟩ : ∃ x, l.getD i 0 = x := ⟨_, rfl⟩
              rw [hx] at hcw hx9
              clear hwr
              obtain ⟨wo, hwo⟩ : ∃ wo : World, wo = wr := ⟨_, rfl⟩
              by_cases hx0 : 0 < x
              · have HC' : Hid (Cst N l (i + 1) (cs ++ [([(i : Int)], x)])) := Lib.hid (by
                  rcases HC.out with ⟨h, e⟩ | ⟨h, _⟩ | ⟨h, _⟩
                  · refine .inl ⟨h, ?_⟩
                    rw [e]
                    show _ = cs1 (wOf l) i ++ _
                    rw [show wOf l i = x from hx, if_pos hx0]
                  · exact absurd h h2
                  · exact absurd h1 h)
                have HLN' : Hid ((cs ++ [([(i : Int)], x)]).length ≤ 5 * (i + 1)) := Lib.hid (by have := HLN.out; rw [List.length_append, List.length_singleton]; omega)
                have HX := Lib.hid hx
                clear hx h1
                go_wp2_with fail
                rw [← hwo] at hD hcw ⊢
                clear hwo
                go_loopw [13] (fun z wr => z = .int .i64 0 ∧ wr = wo) (fun _ _ => 0)
                case atStart => exact ⟨rfl, rfl⟩
                case round =>
                  obtain ⟨rfl, rfl⟩ := hrel
                  obtain ⟨qs, hqs⟩ : ∃ qs, cs.map Prod.fst = qs := ⟨_, rfl⟩
                  obtain ⟨ws, hws⟩ : ∃ ws, cs.map Prod.snd = ws := ⟨_, rfl⟩
                  have HQS : Hid ((cs ++ [([(i : Int)], x)]).map Prod.fst = qs ++ [[(i : Int)]] ∧ (cs ++ [([(i : Int)], x)]).map Prod.snd = ws ++ [x]) := Lib.hid (by rw [List.map_append, List.map_append, hqs, hws]; exact ⟨rfl, rfl⟩)
                  have HLL : Hid (qs.length ≤ 40 ∧ ws.length ≤ 40) := Lib.hid (by have := HLN.out; rw [← hqs, ← hws, List.length_map, List.length_map]; omega)
                  rw [hqs, hws] at hD
                  clear hqs hws HC HLN
                  obtain ⟨va, vc, rfl⟩ := hD.oq.readNo.shape
                  obtain ⟨ua, un, uc, rfl⟩ := hD.ow.shape
                  have g1 := hD.bx.c 1 _ rfl
                  have hZw : Z ≤ wr.heap.size := by have e1 := hD.kk.size; have e2 := hD.sz; omega
                  have ka := (Chg.refl No wr).alloc (.cells #[.int .i64 (i : Int)] 3)
                  have hO := hD.oq.keep ka
                  have hx1 := OI.one (n := (i : Int)) hZw
                  have hd1 : ∀ q, own (Value.slice (some ⟨wr.heap.size, 0, none⟩) 1 1) q → ¬ F q := fun q hq e => by have := (hD.oq.lt q e).2; have hq : some wr.heap.size = some q := hq; rw [Option.some.injEq] at hq; omega
                  have hd2 : ∀ q, own (Value.slice (some ⟨wr.heap.size, 0, none⟩) 1 1) q → wr.heap.size ≤ q := fun q hq => by have hq : some wr.heap.size = some q := hq; rw [Option.some.injEq] at hq; omega
                  have hlen : qs.length < 1099511627776 := by have := HLL.out; omega
                  go_wp2_with (at_builtin; refine wappRz (z := wr.heap.size + 1) (by simp) rfl (.tmp 105) (.tmp 108) rfl hO hx1 hd1 rfl rfl hlen (by omega) ?_)
                  intro v3 w3 F3 h3 k3 hF3 hFo
                  have hF3' : ∀ q, F3 q → F q ∨ own (Value.slice (some ⟨wr.heap.size, 0, none⟩) 1 1) q ∨ (wr.alloc (.cells #[.int .i64 (i : Int)] 3)).heap.size ≤ q := fun q hq => (hF3 q hq).imp id (Or.imp id (fun e => Nat.le_trans (Nat.le_of_eq (by simp)) e))
                  obtain ⟨hN, hbx3⟩ := hD.row ka hd2 h3 k3 hF3' hFo
                  have g3 := hbx3.c 1 _ rfl
                  have f3 := hbx3.fr 1
                  obtain ⟨v3a, v3c, rfl⟩ := h3.readNo.shape
                  have hL1 : (qs ++ [[(i : Int)]]).length = qs.length + 1 := by rw [List.length_append]; rfl
                  rw [hL1] at hN ⊢
                  have HL1 := Lib.hid hL1
                  clear hL1
                  have HCW := Lib.hid (fun (W : World) (k : Chg (fun q => q = X11) W0 W) => (HX.out ▸ (hwX.step k (fun q e => e)).cellQ hlt : W.cell? ⟨wb, wf + i, none⟩ = some (.int .i64 x)))
                  have HLW := Lib.hid (show ws.length + 1 ≤ 17592186044416 by have := HLL.out; omega)
                  clear hcw hD h3 k3 hF3 hF3' hFo hO hx1 hd1 hd2 ka hbx3 g1 hlen hZw
                  go_wp2_with fail
                  refine wp_region_K (S := fun W => W.cell? ⟨X11, 0, none⟩ = some (.slice ua un uc) ∧ W.cell? ⟨wb, wf + i, none⟩ = some (.int .i64 x)) (k := 8) (by kernel_rfl) ?_
                  replace hN := hN.keep (drewN0 _)
                  clear f3 g3
                  generalize World.drew _ = WQ at hN ⊢
                  have hS : WQ.cell? ⟨X11, 0, none⟩ = some (.slice ua un uc) ∧ WQ.cell? ⟨wb, wf + i, none⟩ = some (.int .i64 x) := ⟨hN.bx.c 0 _ rfl, HCW.out WQ hN.kk⟩
                  refine wpAnyK_take0 0 (.pointer (some ⟨X11, 0, none⟩)) rfl (by kernel_rfl) (fun _ _ _ h => h) hS rfl (by intro w; go_simp) ?_
                  simp only [List.getElem_toArray, List.getElem_cons_zero, Act.put, List.setIfInBounds_toArray, List.set_cons_zero, List.set_cons_succ]
                  refine wpAnyK_take 1 (.slice ua un uc) rfl (by kernel_rfl) (fun _ _ _ h => h) hS rfl (by intro w hSw; go_simp) ?_
                  simp only [List.getElem_toArray, List.getElem_cons_succ, List.getElem_cons_zero, Act.put, List.setIfInBounds_toArray, List.set_cons_zero, List.set_cons_succ]
                  refine wpAnyK_take0 2 (.slice (some ⟨wb, wf, none⟩) l.length wc) rfl (by kernel_rfl) (fun _ _ _ h => h) hS rfl (by intro w; go_simp) ?_
                  simp only [List.getElem_toArray, List.getElem_cons_succ, List.getElem_cons_zero, Act.put, List.setIfInBounds_toArray, List.set_cons_zero, List.set_cons_succ]
                  refine wpAnyK_take0 3 (.int .i64 (i : Int)) rfl (by kernel_rfl) (fun _ _ _ h => h) hS rfl (by intro w; go_simp) ?_
                  simp only [List.getElem_toArray, List.getElem_cons_succ, List.getElem_cons_zero, Act.put, List.setIfInBounds_toArray, List.set_cons_zero, List.set_cons_succ]
                  refine wpAnyK_take0 4 (.pointer (some ⟨wb, wf + i, none⟩)) rfl (by kernel_rfl) (fun _ _ _ h => h) hS rfl (by intro w; go_simp) ?_
                  simp only [List.getElem_toArray, List.getElem_cons_succ, List.getElem_cons_zero, Act.put, List.setIfInBounds_toArray, List.set_cons_zero, List.set_cons_succ]
                  refine wpAnyK_take 5 (.int .i64 x) rfl (by kernel_rfl) (fun _ _ _ h => h) hS rfl (by intro w hSw; go_simp) ?_
                  simp only [List.getElem_toArray, List.getElem_cons_succ, List.getElem_cons_zero, Act.put, List.setIfInBounds_toArray, List.set_cons_zero, List.set_cons_succ]
                  have hbz : Z ≤ WQ.heap.size := by have e1 := hN.kk.size; have e2 := hN.sz; omega
                  have ka := (Chg.refl No WQ).alloc (.cells #[.int .i64 x] 3)
                  have ka2 := (Chg.refl (own (Value.slice ua un uc)) WQ).alloc (.cells #[.int .i64 x] 3)
                  have hM := hN.keep ka
                  have h01 := (OI.one (n := x) hbz).readNo
                  refine wpAnyK_1 6 (by kernel_rfl) (wpOpK' rfl rfl ?_)
                  intro K0 hK0
                  unfold Oper.wp execOp
                  go_simp
                  refine hK0.out _ _ ⟨hM.bx.c 0 _ rfl, HCW.out _ hM.kk⟩ ?_
                  clear hK0 K0 hS
                  simp only [List.setIfInBounds_toArray]
                  refine wpAnyK_1 7 (by kernel_rfl) (wpOpK' rfl rfl ?_)
                  intro K0 hK0
                  refine oapp (.tmp 112) (.tmp 117) rfl hM.ow h01 rfl rfl HLW.out (Nat.le_trans hbz ka.size) (fun v2 w2 h2 k2 f2 => ?_)
                  obtain ⟨hR, hbx2⟩ := hN.num h2 (ka2.trans k2) (fun q hq => (f2 q hq).imp id (fun e => Nat.le_trans ka.size e))
                  refine hK0.out _ _ ⟨hbx2.c 0 _ rfl, HCW.out w2 (hN.kk.step (ka2.trans k2) (fun q hq hl => by have := (hN.ow.lt q hq).1; have := hN.sz; omega))⟩ ?_
                  clear hK0 K0
                  simp only [List.getElem_toArray, List.getElem_cons_succ, List.getElem_cons_zero, Act.put, List.setIfInBounds_toArray, List.set_cons_zero, List.set_cons_succ]
                  refine wpAnyK_tail 8 rfl (by kernel_rfl) ?_
                  simp only [List.drop_succ_cons, List.drop_zero]
                  obtain ⟨a2, n2, c2, rfl⟩ := h2.shape
                  have z0 := hbx2.c 0 _ rfl
                  have f0 := hbx2.fr 0
                  clear hN hM ka ka2 h01 h2 k2 f2 hbx2 hbz
                  go_wp2_with fail
                  go_round
                  case rel => exact ⟨i + 1, _, _, _, F3, by omega, by go_num, HC', HLN', by rw [HQS.out.1, HQS.out.2]; exact hR⟩
                  case measure => simp [intOf]; omega
              · have HC' : Hid (Cst N l (i + 1) cs) := Lib.hid (by
                  rcases HC.out with ⟨h, e⟩ | ⟨h, _⟩ | ⟨h, _⟩
                  · refine .inl ⟨h, ?_⟩
                    rw [e]
                    show _ = cs1 (wOf l) i ++ _
                    rw [show wOf l i = x from hx, if_neg hx0, List.append_nil]
                  · exact absurd h h2
                  · exact absurd h1 h)
                have HLN' : Hid (cs.length ≤ 5 * (i + 1)) := Lib.hid (by have := HLN.out; omega)
                have HX := Lib.hid hx
                clear hx h1
                go_wp2_with fail
                rw [← hwo] at hD hcw ⊢
                clear hwo
                go_loopw [13] (fun z wr => z = .int .i64 0 ∧ wr = wo) (fun _ _ => 0)
                case atStart => exact ⟨rfl, rfl⟩
                case round =>
                  obtain ⟨rfl, rfl⟩ := hrel
                  go_wp2_with fail
                  go_round
                  case rel => exact ⟨i + 1, cs, wv, qv, F, by omega, by go_num, HC', HLN', hD⟩
                  case measure => simp [intOf]; omega
            · have hq2 : ((N : Int) == 2) = false := beq_eq_false_iff_ne.2 (by omega)
              have hq1 : ((N : Int) == 1) = false := beq_eq_false_iff_ne.2 (by omega)
              have HC' : Hid (Cst N l (i + 1) cs) := Lib.hid (by
                rcases HC.out with ⟨h, _⟩ | ⟨h, _⟩ | h
                · exact absurd h h1
                · exact absurd h h2
                · exact .inr (.inr h))
              have HLN' : Hid (cs.length ≤ 5 * (i + 1)) := Lib.hid (by have := HLN.out; omega)
              obtain ⟨wo, hwo⟩ : ∃ wo : World, wo = wr := ⟨_, rfl⟩
              go_wp2_with fail
              rw [← hwo] at hD ⊢
              clear hwo
              go_loopw [13] (fun z wr => z = .int .i64 0 ∧ wr = wo) (fun _ _ => 0)
              case atStart => exact ⟨rfl, rfl⟩
              case round =>
                obtain ⟨rfl, rfl⟩ := hrel
                go_wp2_with fail
                go_round
                case rel => exact ⟨i + 1, cs, wv, qv, F, by omega, by go_num, HC', HLN', hD⟩
                case measure => simp [intOf]; omega
        · have hie : i = l.length := by omega
          subst hie
          have how := hD.ow.readNo
          have hoq := hD.oq.readNo
          have hBE := HBE.out cs HC.out
          have hbP := bP.step hD.kk hXX
          have hbx := hD.bx
          have hb7 := b7.step hD.kk hYX
          have hPE := (hPX.step hD.kk (fun q e => e)).weakN
          have kkE := kk.step hD.kk (fun q e hl => by have e : q = X11 := e; omega)
          obtain ⟨qs, hqs⟩ : ∃ qs, cs.map Prod.fst = qs := ⟨_, rfl⟩
          obtain ⟨ws, hws⟩ : ∃ ws, cs.map Prod.snd = ws := ⟨_, rfl⟩
          rw [hqs] at hoq hBE
          rw [hws] at how hBE
          have hbx2 := hbx
          clear HBE HC HLN hD hqs hws
          obtain ⟨u1, u2, rfl, _⟩ := id how
          obtain ⟨u3, u4, rfl⟩ := hoq.shape
          have e0 := hbP.c 0 _ rfl
          have e1 := hbP.c 1 _ rfl
          have e2 := hbx.c 0 _ rfl
          have e3 := hbx.c 1 _ rfl
          obtain ⟨bv, hbv⟩ : ∃ bv, bexV ⟨m, s⟩ (S : Int) qs ws = bv := ⟨_, rfl⟩
          have HBV := Lib.hid hbv
          have HE := Lib.hid hBE
          rw [hbv] at HE
          clear hbv hBE
          go_wp2_with fail
          refine (implBestExpected_any No _ _ ⟨m, s⟩ (S : Int) qs ws wr hPE ⟨_, _, rfl, how, hoq⟩).mono ?_
          rintro e w8 ⟨_, _, rfl, rfl, rfl, k8⟩
          rw [HBV.out]
          have hb8 := hb7.keep k8
          have e4 := hb8.c 0 _ rfl
          have e5 := hb8.c 1 _ rfl
          have n8l := hb8.lt
          have n8 : ¬ Y = w8.heap.size := by omega
          have n8' : ¬ w8.heap.size = Y := by omega
          have kk8 := kkE.keep k8
          have ka8 := kk8.alloc (.cells #[.int .i64 bv.num, .int .i64 bv.den] 46)
          cases hbo : bv.ok
          · go_wp2_with fail
            go_ret
            exact ⟨rfl, ka8⟩
          · have hbf := HE.out hbo
            subst hbf
            have hef := fun W => eqFr_runQ bv.num bv.den W
            go_wp2_with fail
            go_ret
            exact ⟨rfl, ka8⟩
end Go.Proofs.Ytndhijckbponkaa
