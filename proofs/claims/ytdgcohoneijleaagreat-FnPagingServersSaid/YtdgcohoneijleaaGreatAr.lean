import Derived.Test.YtdgcohoneijleaaGreatAq
/- the work function algorithm: the program's walk -/
namespace Go.Proofs.YtdgcohoneijleaaGreat
open Go.RowKit

def rnL (D : List (List Int)) (k : Nat) (a q : List Int) (t : Nat) : List (List Int) := (List.range t).map fun s => (rnT D.length k (dD D) a q (s + 1)).1
theorem rnL_len (D : List (List Int)) (k : Nat) (a q : List Int) (t : Nat) : (rnL D k a q t).length = t := by simp [rnL]
theorem rnL_step (D : List (List Int)) (k : Nat) (a q : List Int) (t : Nat) : rnL D k a q (t + 1) = rnL D k a q t ++ [(rnT D.length k (dD D) a q (t + 1)).1] := by
  unfold rnL
  rw [List.range_succ, List.map_append]; rfl
theorem rnT_step (n k : Nat) (d : Int → Int → Int) (a q : List Int) (t : Nat) {r : Int} {x : List Int} {c : Int} (h : rnT n k d a q t = (x, c)) (hr : q.getD t 0 = r) :
    rnT n k d a q (t + 1) = ((svL n k d (wkT n k d a q (t + 1)) x r).1, c + (svL n k d (wkT n k d a q (t + 1)) x r).2) := by rw [rnT, h, hr]
set_option maxRecDepth 100000 in
set_option maxHeartbeats 4000000 in
theorem WorkRun_yes (A B C : Nat → Prop) (dv av rv : Value) (D : List (List Int)) (a q : List Int) (w : World) (h : RII A w dv D) (ha : RI B w av a) (hq : RI C w rv q) (hs : servB D a q = true) :
    Calls Tryz.prog 12 #[.agg #[dv], av, rv] w (fun e w' => ∃ v0 v1 v2, e = .returned (.tuple #[v0, v1, v2]) ∧ (∃ F, OII w.heap.size w' v0 (rnL D a.length a q q.length) F) ∧ v1 = .int .i64 (rnT D.length a.length (dD D) a q q.length).2 ∧ v2 = .bool true ∧ Chg No w w') := by
  obtain ⟨hm, hk, hac, hqp, hql⟩ := servB_facts hs
  obtain ⟨da, dc, rfl⟩ := h.shape
  obtain ⟨aa, ac, rfl, _⟩ := id ha
  obtain ⟨qa, qc, rfl, _⟩ := id hq
  have HS := Lib.hid (fun W (kc : Chg No w W) => isServed_any A B C _ _ _ D a q W (h.keep kc) (ha.keep kc) (hq.keep kc))
  rw [hs] at HS
  have HW := Lib.hid (fun W (kc : Chg No w W) => worksOf_any A _ D a.length W (h.keep kc) hm hk)
  have HL := Lib.hid (fun W wv (kc : Chg No w W) (hw : WkO A W wv D a.length) => lists_any A B C wv _ _ D a.length a q W hm hk hw (ha.keep kc) hac (hq.keep kc) hqp hql)
  have HG := Lib.hid (fun t (ht : t ≤ q.length) => wkL_get D a.length a q ht)
  have HLL := Lib.hid (wkL_len D a.length a q q.length)
  have HWI := Lib.hid (fun t (ht : t ≤ q.length) => wk_in hm hk hac hqp hql ht)
  have HRF := Lib.hid (fun t (ht : t ≤ q.length) => rnT_facts hk (metP_d hm).1 (metP_d hm).2 hac hqp (by omega) t ht)
  have HQ := Lib.hid (fun t (ht : t < q.length) => pts_get hqp ht)
  have HSV := Lib.hid (fun (t : Nat) (ht : t + 1 ≤ q.length) (E F : Nat → Prop) (wv lv xv : Value) (x : List Int) (r : Nat) (W : World) (hw : WkO A W wv D a.length) (hl : RI E W lv (wkT D.length a.length (dD D) a q (t + 1))) (hx : RI F W xv x) (hxc : x ∈ cfs D.length a.length) (hr : r < D.length) =>
    serve_any A E F wv lv xv D a.length _ x r W hm hk hw hl hx (wk_in hm hk hac hqp hql ht).1 (wk_in hm hk hac hqp hql ht).2 hxc hr)
  have HQL : Hid (q.length ≤ 60) := Lib.hid hql
  obtain ⟨k, hkk⟩ : ∃ k, a.length = k := ⟨_, rfl⟩
  have hac3 : a.length ≤ 17592186044416 := ha.len
  have HA0 := Lib.hid (show RI No w (.slice aa a.length ac) a from ha.weak (fun _ e _ => e.elim))
  clear hm hk hac hqp hql hs ha hkk
  go_enter Tryz.func12, Tryz.ntmps12
  go_wp2_with fail
  refine bx1 (R := fun W => Calls _ _ _ W _) (fun W0 k0 b0 => ?_)
  refine (HS.out W0 k0).mono ?_
  rintro e w1 ⟨_, rfl, rfl, k1⟩
  have kk1 := k0.keep k1
  have b1 := b0.keep k1
  have g1 := b1.c 0 _ rfl
  clear b0
  go_wp2_with fail
  refine (HW.out w1 kk1).mono ?_
  rintro e w2 ⟨wv, rfl, hwk, k2⟩
  have kk2 := kk1.keep k2
  have HWK := Lib.hid hwk
  obtain ⟨bb, _, _, _, rfl, _⟩ := hwk.val
  clear hwk g1 b1
  go_wp2_with fail
  refine (HL.out w2 _ kk2 HWK.out).mono ?_
  rintro e w3 ⟨lv, rfl, ⟨FL, hL⟩, k3⟩
  have kk := kk2.keep k3
  have HWK3 := Lib.hid (HWK.out.keep k3)
  have HLR := Lib.hid hL.readNo
  obtain ⟨la, lc, rfl⟩ := hL.readNo.shape
  have HA3 := Lib.hid (HA0.out.keep kk)
  have hq3 := hq.keep kk
  obtain ⟨LL, hLLL⟩ : ∃ LL, wkL D a.length a q q.length = LL := ⟨_, rfl⟩
  rw [hLLL] at HG HLL HLR ⊢
  have hz3 := kk.size
  have h0 := OII.zero (base := w3.heap.size) (w := w3) (Nat.le_refl _)
  have ka := (Chg.refl No w3).alloc (.cells #[] 25)
  have HA4 := HA3.out.to (B := fun p => p = w3.heap.size) ka (fun _ e => e.elim) (fun p hp => .inr (by omega))
  clear hL HWK HL HW HS k0 k1 k2 k3 kk1 kk2 hLLL
  go_wp2_with fail
  go_loopw [1, 11, 12, 33] (fun x o y z wr => ∃ (t : Nat) (F : Nat → Prop), t ≤ q.length ∧ z = .int .i64 (t : Int) ∧ OII w3.heap.size wr o (rnL D a.length a q t) F ∧ RI F wr x (rnT D.length a.length (dD D) a q t).1 ∧ y = .int .i64 (rnT D.length a.length (dD D) a q t).2 ∧ Chg No w3 wr) (fun _ _ _ z _ => q.length - (intOf z).toNat)
  case atStart => exact ⟨0, _, Nat.zero_le _, rfl, h0, HA4, rfl, ka⟩
  case round =>
    clear h0 HA4 ka
    obtain ⟨t, F, ht, rfl, hO, hx, rfl, kr⟩ := hrel
    have ht0 : (0 : Int) ≤ (t : Int) := Int.natCast_nonneg _
    obtain ⟨oa, oc, rfl⟩ := hO.readNo.shape
    have hrl := rnL_len D a.length a q t
    have HRS := Lib.hid (rnL_step D a.length a q t)
    obtain ⟨M, hM⟩ : ∃ M, rnL D a.length a q t = M := ⟨_, rfl⟩
    rw [hM] at hO hrl HRS ⊢
    obtain ⟨RT, hRT⟩ : ∃ RT, rnT D.length a.length (dD D) a q t = RT := ⟨_, rfl⟩
    have hf := HRF.out t ht
    rw [hRT] at hx hf ⊢
    obtain ⟨x, c⟩ := RT
    simp only at hx hf ⊢
    have HM := Lib.hid hM
    have hM2 : M.length ≤ 60 := by have := HQL.out; omega
    clear hM hrl
    by_cases hlt : t < q.length
    · have ht1 : (t : Int) < (q.length : Int) := by omega
      have hwt : IntKind.i64.wrap ((t : Int) + 1) = (t : Int) + 1 := IntWalk.i64_in _ (by omega)
      obtain ⟨r, hr, hrn⟩ := HQ.out t hlt
      obtain ⟨qb, qf, rfl, hqb, hcq⟩ := (hq3.keep kr).cellN hlt
      obtain ⟨lb, lf, za, zc, hsl, hlb, hcl, hrow⟩ := (HLR.out.keep kr).row (i := t + 1) (by have := HLL.out; omega)
      subst hsl
      have hgl := HG.out (t + 1) hlt
      rw [hgl] at hcl hrow
      rw [hr] at hcq
      have hfn := HRF.out (t + 1) hlt
      rw [rnT_step _ _ _ _ _ _ hRT hr] at HRS hfn
      have HRT := Lib.hid (rnT_step D.length a.length (dD D) a q t hRT hr)
      have HSV1 := Lib.hid (HSV.out t hlt _ _ _ _ _ x r wr (HWK3.out.keep kr) hrow hx hf.1 hrn)
      obtain ⟨SV, hSV⟩ : ∃ SV, svL D.length a.length (dD D) (wkT D.length a.length (dD D) a q (t + 1)) x (r : Int) = SV := ⟨_, rfl⟩
      rw [hSV] at HRS hfn HRT HSV1
      obtain ⟨nx, cc⟩ := SV
      simp only at HRS hfn HRT HSV1
      obtain ⟨NL, hNL⟩ : ∃ NL, (wkT D.length a.length (dD D) a q (t + 1)).length = NL := ⟨_, rfl⟩
      rw [hNL] at hcl HSV1
      obtain ⟨xa, xc, hxv, _⟩ := id hx
      subst hxv
      have ht2 : (0 : Int) ≤ (t : Int) + 1 := by omega
      have ht3 : (t : Int) + 1 < (LL.length : Int) := by have := HLL.out; omega
      have htn : ((t : Int) + 1).toNat = t + 1 := by omega
      have hq6 := HQL.out
      have hws : IntKind.i64.wrap (c + cc) = c + cc := IntWalk.i64_in _ (by omega)
      have hzr := kr.size
      have hFz : Hid (∀ p, F p → p < wr.heap.size) := Lib.hid (fun p hp => (hO.lt p hp).2)
      clear hr hgl hrow hSV hNL hRT hfn hf hx
      go_wp2_with fail
      refine HSV1.out.mono ?_
      rintro e w4 ⟨v0, v1, rfl, hn, rfl, k4⟩
      obtain ⟨na, nc, rfl, _⟩ := hn.view
      have kr4 := kr.keep k4
      have hO4 := hO.keep k4
      have HNR := Lib.hid (hn.read (A := fun p => F p ∨ w4.heap.size ≤ p) (fun p hp e => by have h8 := hn.lt p hp; rcases e with e | e; (have := hFz.out p e; omega); omega))
      have hnn := hn.readNo
      have hz4 := k4.size
      clear hcl hcq hn kr hO
      go_wp2_with fail
      refine (Clone_any _ _ nx w4 hnn).mono ?_
      rintro e w5 ⟨cv, rfl, hc, k5⟩
      obtain ⟨ca, cn, rfl, _⟩ := hc.view
      have kr5 := kr4.keep k5
      have hO5 := hO4.keep k5
      have hz5 := k5.size
      have hd : ∀ p, own (.slice ca nx.length cn) p → ¬ F p := fun p hp hF => by have := (hc.lt p hp).1; have := hFz.out p hF; omega
      have hlen : M.length < 1099511627776 := by omega
      have hbase : w3.heap.size ≤ w5.heap.size := by omega
      have hcw := hc.weak (show w3.heap.size ≤ w4.heap.size by omega)
      have HNR5 := Lib.hid (HNR.out.keep k5)
      clear hnn HNR kr4 hO4
      go_wp2_with (at_builtin; refine wappR rfl (.tmp 50) (.tmp 53) rfl hO5 hcw hd rfl rfl hlen hbase ?_)
      intro v6 w6 F6 h6 k6 hF6 hFo
      have kr6 := kr5.step k6 (fun p hp hl => by have := (hO5.lt p (hFo p hp)).1; omega)
      have HX6 := Lib.hid (HNR5.out.to (B := F6) k6 (fun p hp => .inl (hFo p hp)) (fun p hp => by
        rcases hF6 p hp with e | e | e
        · exact .inl (.inl e)
        · exact .inl (.inr (hc.lt p e).1)
        · exact .inr e))
      rw [← HRS.out] at h6
      have HO6 := Lib.hid h6
      obtain ⟨v6a, v6c, rfl⟩ := h6.readNo.shape
      clear hd h6 hcw hc hO5 kr5
      go_wp2_with fail
      go_round
      case rel => exact ⟨t + 1, F6, hlt, by go_num, HO6.out, by rw [HRT.out]; exact HX6.out, by rw [HRT.out], kr6⟩
      case measure => simp [intOf]; omega
    · have hte : t = q.length := by omega
      have ht1 : ¬ (t : Int) < (q.length : Int) := by omega
      have HFN := Lib.hid (And.intro hO kr)
      have HRE := Lib.hid (And.intro HM.out (show (rnT D.length a.length (dD D) a q q.length).2 = c by rw [← hte, hRT]))
      clear hO kr hx hRT hf
      go_wp2_with fail
      refine bodyPost_ret (v := .tuple #[.slice oa M.length oc, .int .i64 c, .bool true]) (by simp [results, Tryz.results12, go_sem]) rfl ?_
      exact ⟨_, _, _, rfl, ⟨F, by rw [show rnL D a.length a q q.length = M by rw [← hte]; exact HRE.out.1]; exact HFN.out.1.weak hz3⟩, by rw [HRE.out.2], rfl, kk.keep HFN.out.2⟩
end Go.Proofs.YtdgcohoneijleaaGreat
