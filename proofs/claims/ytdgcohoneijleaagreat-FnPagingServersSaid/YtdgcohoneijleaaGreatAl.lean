import Derived.Test.YtdgcohoneijleaaGreatAk
import Derived.Test.YtdgcohoneijleaaGreatAj
/- the works of a table: the program's walk -/
namespace Go.Proofs.YtdgcohoneijleaaGreat
open Go.RowKit

def cosT (D : List (List Int)) (k : Nat) : List (List Int) := (cfs D.length k).map fun a => w0L D.length k (dD D) a
theorem cosT_len (D : List (List Int)) (k : Nat) : (cosT D k).length = nC D.length k := by unfold cosT nC; rw [List.length_map]
theorem cosT_get (D : List (List Int)) (k : Nat) {i : Nat} (h : i < nC D.length k) : (cosT D k).getD i [] = w0L D.length k (dD D) (cfg D.length k i) := by
  unfold cosT cfg
  unfold nC at h
  rw [List.getD_eq_getElem?_getD, List.getElem?_map, List.getD_eq_getElem?_getD, List.getElem?_eq_getElem h]; rfl
/-- the works of a table, as they lie in memory -/
structure WkO (A : Nat → Prop) (w : World) (v : Value) (D : List (List Int)) (k : Nat) : Prop where
  val : ∃ b dv cv ov, v = .pointer (some ⟨b, 0, none⟩) ∧ BoxN w b [dv, cv, ov] ∧ RII A w dv D ∧ RII No w cv (cfs D.length k) ∧ RII No w ov (cosT D k)
theorem WkO.keep {A : Nat → Prop} {w w' : World} {v : Value} {D : List (List Int)} {k : Nat} (h : WkO A w v D k) (hc : Chg No w w') : WkO A w' v D k := by
  obtain ⟨b, dv, cv, ov, rfl, h1, h2, h3, h4⟩ := h.val
  exact ⟨b, dv, cv, ov, rfl, h1.keep hc, h2.keep hc, h3.keep hc, h4.keep hc⟩
theorem nC_le {n k : Nat} (hn : n ≤ 6) (hk : k ≤ 3) : nC n k ≤ 56 := cfs_len n hn k hk
set_option maxRecDepth 100000 in
set_option maxHeartbeats 4000000 in
theorem worksOf_any (A : Nat → Prop) (dv : Value) (D : List (List Int)) (k : Nat) (w : World) (h : RII A w dv D) (hm : MetP D) (hk : 1 ≤ k ∧ k ≤ 3) :
    Calls Tryz.prog 26 #[.agg #[dv], .int .i64 (k : Int)] w (Ret fun v w' => WkO A w' v D k ∧ Chg No w w') := by
  have hn6 : D.length ≤ 6 := hm.1.2
  obtain ⟨da, dc, rfl⟩ := h.shape
  have HMV := Lib.hid (fun (a b : List Int) (ha : a ∈ cfs D.length k) (hb : b ∈ cfs D.length k) (B C : Nat → Prop) (av bv : Value) (W : World) (hd : RII A W (.slice da D.length dc) D) (r1 : RI B W av a) (r2 : RI C W bv b) =>
    moveCost_any A B C _ av bv D a b W hd r1 r2 hm (by rw [(cfs_mem.1 ha).1, (cfs_mem.1 hb).1]) (by rw [(cfs_mem.1 ha).1]; exact hk) (cfs_mem.1 ha).2.1 (cfs_mem.1 hb).2.1)
  have HCF := Lib.hid (fun W => configsOf_any D.length hn6 k 0 W hk.2 (Nat.zero_le _))
  have HC56 : (cfs D.length k).length ≤ 56 := cfs_len _ hn6 _ hk.2
  have HCT : Hid (∀ i, i < (cfs D.length k).length → (cosT D k).take (i + 1) = (cosT D k).take i ++ [(cfs D.length k).map (mvF (dD D) ((cfs D.length k).getD i []))]) := Lib.hid (fun i hi => by
    have e := take_snocD (cosT D k) [] (j := i) (by rw [cosT_len]; exact hi)
    rw [e, cosT_get D k hi]; rfl)
  have HCL : Hid (cosT D k = (cosT D k).take (cfs D.length k).length) := Lib.hid (by rw [List.take_of_length_le]; rw [cosT_len]; exact Nat.le_refl _)
  clear hm hk
  go_enter Tryz.func26, Tryz.ntmps26
  go_wp2_with fail
  refine bx1 (fun W0 k0 b0 => ?_)
  obtain ⟨R0, hR0⟩ : ∃ R, w.heap.size = R := ⟨_, rfl⟩
  rw [hR0] at b0
  try rw [hR0]
  clear hR0
  have hD0 := h.keep k0
  refine wp_region_K (S := fun W => W.cell? ⟨R0, 0, none⟩ = some (.slice da D.length dc)) (k := 7) (by kernel_rfl) ?_
  have kq : Chg No W0 (World.drew W0) := drewN0 _
  have kk := k0.keep kq
  have hS : (fun W : World => W.cell? ⟨R0, 0, none⟩ = some (.slice da D.length dc)) W0.drew := (b0.keep kq).c 0 _ rfl
  have bq := b0.keep kq
  generalize W0.drew = W at kq hS kk bq ⊢
  refine wpAnyK_takeT 0 (.agg #[.slice da D.length dc]) rfl (by kernel_rfl) (fun _ _ _ h => h) hS rfl (by intro w hSw; go_simp) ?_
  simp only [List.getElem_toArray, List.getElem_cons_zero, Act.put, List.setIfInBounds_toArray, List.set_cons_zero, List.set_cons_succ]
  refine wpAnyK_take0 1 (.pointer (some ⟨R0, 0, none⟩)) rfl (by kernel_rfl) (fun _ _ _ h => h) hS rfl (by intro w; go_simp) ?_
  simp only [List.getElem_toArray, List.getElem_cons_succ, List.getElem_cons_zero, Act.put, List.setIfInBounds_toArray, List.set_cons_zero, List.set_cons_succ]
  refine wpAnyK_takeT 2 (.slice da D.length dc) rfl (by kernel_rfl) (fun _ _ _ h => h) hS rfl (by intro w hSw; go_simp) ?_
  simp only [List.getElem_toArray, List.getElem_cons_succ, List.getElem_cons_zero, Act.put, List.setIfInBounds_toArray, List.set_cons_zero, List.set_cons_succ]
  refine wpAnyK_take0 3 (.int .i64 (D.length : Int)) rfl (by kernel_rfl) (fun _ _ _ h => h) hS rfl (by intro w; go_simp) ?_
  simp only [List.getElem_toArray, List.getElem_cons_succ, List.getElem_cons_zero, Act.put, List.setIfInBounds_toArray, List.set_cons_zero, List.set_cons_succ]
  refine wpAnyK_take0 4 (.int .i64 (k : Int)) rfl (by kernel_rfl) (fun _ _ _ h => h) hS rfl (by intro w; go_simp) ?_
  simp only [List.getElem_toArray, List.getElem_cons_succ, List.getElem_cons_zero, Act.put, List.setIfInBounds_toArray, List.set_cons_zero, List.set_cons_succ]
  refine wpAnyK_1 5 (by kernel_rfl) (wpOpK' rfl rfl ?_)
  intro K hK
  refine ocall (f := 49) (args := #[.int .i64 (D.length : Int), .int .i64 (k : Int), .int .i64 ((0 : Nat) : Int)]) (by go_simp) (HCF.out W) (fun cv W1 h1 => hK.out _ _ ?_ ?_)
  · exact (h1.2.cellD R0 0 bq.lt (fun e => e)).trans hS
  obtain ⟨⟨FC, hC⟩, k1⟩ := h1
  have hS1 : (fun W : World => W.cell? ⟨R0, 0, none⟩ = some (.slice da D.length dc)) W1 := (k1.cellD R0 0 bq.lt (fun e => e)).trans hS
  clear hK K hS
  have kk1 := kk.keep k1
  have b1 := bq.keep k1
  obtain ⟨C, hCC⟩ : ∃ C, cfs D.length k = C := ⟨_, rfl⟩
  rw [show cfR D.length k 0 = cfs D.length k from rfl] at hC
  rw [hCC] at hC HC56 HCT HCL
  have HCC := Lib.hid hCC
  clear hCC
  obtain ⟨ca, cc, rfl⟩ := hC.readNo.shape
  have hS := hS1
  simp only [List.getElem_toArray, List.getElem_cons_succ, List.getElem_cons_zero, Act.put, List.setIfInBounds_toArray, List.set_cons_zero, List.set_cons_succ]
  refine wpAnyK_take0 6 (.agg #[.slice da D.length dc, .slice ca C.length cc, .slice none 0 0]) rfl (by kernel_rfl) (fun _ _ _ h => h) hS rfl (by intro w; go_simp) ?_
  simp only [List.getElem_toArray, List.getElem_cons_succ, List.getElem_cons_zero, Act.put, List.setIfInBounds_toArray, List.set_cons_zero, List.set_cons_succ]
  clear hS hS1
  refine wpAnyK_tail 7 rfl (by kernel_rfl) ?_
  simp only [List.drop_succ_cons, List.drop_zero]
  have k2 := kk1.alloc (.cells #[.slice da D.length dc, .slice ca C.length cc, .slice none 0 0] 81)
  have b2 := BoxN.new W1 #[.slice da D.length dc, .slice ca C.length cc, .slice none 0 0] 81
  have b3 := b1.alloc (.cells #[.slice da D.length dc, .slice ca C.length cc, .slice none 0 0] 81)
  obtain ⟨b, hbb⟩ : ∃ b, W1.heap.size = b := ⟨_, rfl⟩
  have HRC := Lib.hid ((hC.read (A := fun q => b ≤ q) (fun q hq => by have := (hC.lt q hq).2; omega)).keep ((Chg.refl No W1).alloc (.cells #[.slice da D.length dc, .slice ca C.length cc, .slice none 0 0] 81)))
  have HWB : Hid (w.heap.size ≤ b ∧ R0 < b) := Lib.hid ⟨by rw [← hbb]; exact kk1.size, by have := b1.lt; omega⟩
  have hO0 := OII.nil (b + 1) (W1.alloc (.cells #[.slice da D.length dc, .slice ca C.length cc, .slice none 0 0] 81))
  rw [hbb] at b2
  clear hC k1 kk kk1 bq b1 k0 kq b0 hD0
  go_wp2_with fail
  try rw [hbb]
  clear hbb
  generalize World.alloc W1 _ = W2 at k2 b2 b3 HRC hO0 ⊢
  go_loopw [24] (fun z wr => ∃ (i : Nat) (ov : Value) (F : Nat → Prop), i ≤ C.length ∧ z = .int .i64 (i : Int) ∧ BoxN wr b [.slice da D.length dc, .slice ca C.length cc, ov] ∧ OII (b + 1) wr ov ((cosT D k).take i) F ∧ BoxN wr R0 [.slice da D.length dc] ∧ Hid (RII (fun q => b ≤ q) wr (.slice ca C.length cc) C) ∧ Chg No w wr) (fun z _ => C.length - (intOf z).toNat)
  case atStart => exact ⟨0, _, _, Nat.zero_le _, rfl, b2, hO0, b3, HRC, k2⟩
  case round =>
    clear b2 b3 hO0 HRC k2
    obtain ⟨i, ov, F, hi, rfl, b2, hO, b3, HR, kr⟩ := hrel
    have hi0 : (0 : Int) ≤ (i : Int) := Int.natCast_nonneg _
    have hTL : ((cosT D k).take i).length = i := by
      have := HCC.out
      rw [List.length_take, cosT_len, nC, this]; omega
    have HST := Lib.hid (HCT.out i)
    obtain ⟨T, hT⟩ : ∃ T, (cosT D k).take i = T := ⟨_, rfl⟩
    rw [hT] at hO hTL HST
    have HT := Lib.hid hT
    have HTL := Lib.hid hTL
    obtain ⟨oa, oc, rfl⟩ := hO.readNo.shape
    have hlen : T.length < 1099511627776 := by omega
    clear hT hTL
    by_cases hlt : i < C.length
    · have hi1 : (i : Int) < (C.length : Int) := by omega
      have hwi : IntKind.i64.wrap ((i : Int) + 1) = (i : Int) + 1 := IntWalk.i64_in _ (by omega)
      obtain ⟨rb, ro, xa, xc, rfl, hrb, hcr, hrow⟩ := HR.out.row hlt
      have hmem : C.getD i [] ∈ C := by rw [List.getD_eq_getElem?_getD, List.getElem?_eq_getElem hlt]; exact List.getElem_mem _
      obtain ⟨a, ha⟩ : ∃ a, C.getD i [] = a := ⟨_, rfl⟩
      rw [ha] at hcr hrow hmem HST
      have HMEM := Lib.hid (show a ∈ cfs D.length k by rw [HCC.out]; exact hmem)
      have hrz := OI.zero (base := wr.heap.size) (w := wr) (Nat.le_refl _)
      have ka := (Chg.refl No wr).alloc (.cells #[] 3)
      have g1 := b2.c 1 _ rfl
      have g1a := (b2.keep ka).c 1 _ rfl
      obtain ⟨wo, hwo⟩ : ∃ wo : World, wo = wr := ⟨_, rfl⟩
      clear ha hmem
      go_wp2_with fail
      rw [← hwo] at hrz ka b2 hO b3 HR kr hrow hrb ⊢
      clear hwo hcr g1 g1a
      have HROW := Lib.hid hrow
      clear hrow
      go_loopw [8, 34] (fun o z wq => ∃ (j : Nat), j ≤ C.length ∧ z = .int .i64 (j : Int) ∧ OI wo.heap.size wq o ((C.take j).map (mvF (dD D) a)) ∧ Chg No wo wq) (fun _ z _ => C.length - (intOf z).toNat)
      case atStart => exact ⟨0, Nat.zero_le _, rfl, hrz, ka⟩
      case round =>
        clear hrz ka
        obtain ⟨j, hj, rfl, ho, kq⟩ := hrel
        have hj0 : (0 : Int) ≤ (j : Int) := Int.natCast_nonneg _
        have z1 := kq.size
        have hRL : ((C.take j).map (mvF (dD D) a)).length = j := by rw [List.length_map, List.length_take]; omega
        have HSR : Hid (j < C.length → (C.take (j + 1)).map (mvF (dD D) a) = (C.take j).map (mvF (dD D) a) ++ [mvF (dD D) a (C.getD j [])]) := Lib.hid (fun h => by
          rw [take_snocD C [] h, List.map_append]; rfl)
        obtain ⟨R, hR⟩ : ∃ R, (C.take j).map (mvF (dD D) a) = R := ⟨_, rfl⟩
        rw [hR] at ho HSR hRL
        have HRR := Lib.hid hR
        have hl9 : R.length < 17592186044416 := by omega
        have HRL := Lib.hid hRL
        clear hR hRL
        obtain ⟨oa', oc', rfl, _⟩ := ho.view
        by_cases hltj : j < C.length
        · have hj1 : (j : Int) < (C.length : Int) := by omega
          have hwj : IntKind.i64.wrap ((j : Int) + 1) = (j : Int) + 1 := IntWalk.i64_in _ (by omega)
          obtain ⟨sb, so, ya, yc, he, hsb, hcs, hrow2⟩ := (HR.out.keep kq).row hltj
          simp only [Option.some.injEq, Addr.mk.injEq, and_true] at he
          obtain ⟨rfl, rfl⟩ := he
          have hmem2 : C.getD j [] ∈ C := by rw [List.getD_eq_getElem?_getD, List.getElem?_eq_getElem hltj]; exact List.getElem_mem _
          obtain ⟨c, hc⟩ : ∃ c, C.getD j [] = c := ⟨_, rfl⟩
          rw [hc] at hcs hrow2 hmem2 HSR
          have HMEM2 := Lib.hid (show c ∈ cfs D.length k by rw [HCC.out]; exact hmem2)
          have HROW2 := Lib.hid hrow2
          have g0 := (b3.keep kq).c 0 _ rfl
          clear hc hmem2 hrow2
          go_wp2_with fail
          refine (HMV.out a c HMEM.out HMEM2.out _ _ _ _ wr (h.keep (kr.keep kq)) (HROW.out.keep kq) HROW2.out).mono ?_
          rintro e w3 ⟨_, rfl, rfl, k3⟩
          obtain ⟨x, hx⟩ : ∃ x, mvF (dD D) a c = x := ⟨_, rfl⟩
          rw [hx] at HSR ⊢
          replace ho := ho.keep k3
          replace kq := kq.keep k3
          replace z1 := kq.size
          clear hx hcs g0
          go_wp2_with (at_builtin; refine wapp1 rfl (.tmp 38) (.tmp 43) rfl ho rfl rfl hl9 z1 ?_)
          intro v2 w4 h2 k4 f2
          have HS := HSR.out hltj
          rw [← HS] at h2
          have HS' := Lib.hid h2
          clear h2 HS
          go_wp2_with fail
          go_round
          case rel => exact ⟨j + 1, hltj, by go_num, HS'.out, kq.own k4 ho (Nat.le_refl _)⟩
          case measure => simp [intOf]; omega
        · have hje : j = C.length := by omega
          subst hje
          have hj1 : ¬ (C.length : Int) < (C.length : Int) := by omega
          have hO2 := hO.keep kq
          have b2q := b2.keep kq
          have b3q := b3.keep kq
          have HR2 := Lib.hid (HR.out.keep kq)
          have hzr := kr.size
          have hbl := b2.lt
          have hbase : b + 1 ≤ wr.heap.size := by omega
          have hd : ∀ q, own (.slice oa' R.length oc') q → ¬ F q := fun q hq hF => by have := (ho.lt q hq).1; have := (hO.lt q hF).2; omega
          have g2 := b2q.c 2 _ rfl
          have f2 := b2q.fr 2
          go_wp2_with (at_builtin; refine wappR rfl (.tmp 50) (.tmp 52) rfl hO2 (ho.weak (by omega)) hd rfl rfl hlen hbase ?_)
          intro v3 w3 F3 h3 k3 hF3 hFo
          have hnb : ¬ own (.slice oa T.length oc) b := fun e => by have := (hO2.lt _ (hFo _ e)).1; omega
          have hRb := HWB.out
          have hnR : ¬ own (.slice oa T.length oc) R0 := fun e => by have := (hO2.lt _ (hFo _ e)).1; omega
          have b2' := b2q.step k3 hnb
          have b3' := b3q.step k3 hnR
          have g3 := b2'.c 2 _ rfl
          have f3 := b2'.fr 2
          have kr' := (kr.keep kq).step k3 (fun q hq hl => by have := (hO2.lt q (hFo q hq)).1; omega)
          have HR3 := Lib.hid (HR2.out.step k3 (fun q e => by show b ≤ q; have := (hO2.lt q (hFo q e)).1; omega))
          have HS := HST.out hlt
          have hRe : R = C.map (mvF (dD D) a) := by rw [← HRR.out, List.take_length]
          rw [← hRe] at HS
          rw [← HS] at h3
          obtain ⟨v3a, v3c, hv3⟩ := h3.readNo.shape
          obtain ⟨N, hN⟩ : ∃ N, ((cosT D k).take (i + 1)).length = N := ⟨_, rfl⟩
          rw [hN] at hv3
          subst hv3
          have b2s := b2'.set (i := 2) (by simp) (.slice v3a N v3c)
          have b3s := b3'.far ⟨b, 2, none⟩ (.slice v3a N v3c) (by simp; omega)
          have HO3 := Lib.hid (h3.step (chg1 w3 b 2 (.slice v3a N v3c)) (fun q hq e => by have := (h3.lt q hq).1; omega))
          have HR4 := Lib.hid (HR3.out.step (chg1 w3 b 2 (.slice v3a N v3c)) (fun q e => by show b ≤ q; omega))
          have kr4 := kr'.setCell (p := ⟨b, 2, none⟩) (fun h => by simp at h; omega) (.slice v3a N v3c)
          clear HS hRe h3 hN hO2 hO b2q b3q hd g2 f2 HR2 HR3 b2' b3' kr' hnb hnR
          go_wp2_with fail
          go_round
          case rel => exact ⟨i + 1, _, F3, by omega, by go_num, b2s, HO3.out, b3s, HR4, kr4⟩
          case measure => simp [intOf]; omega
    · have hie : i = C.length := by omega
      have hi1 : ¬ (i : Int) < (C.length : Int) := by omega
      have HE : Hid (T = cosT D k) := Lib.hid (by rw [← HT.out, hie]; exact HCL.out.symm)
      have HFN := Lib.hid (And.intro b2 (And.intro hO (And.intro HR.out kr)))
      clear b2 hO HR kr b3
      go_wp2_with fail
      go_ret
      refine ⟨_, rfl, ⟨b, _, _, _, rfl, HFN.out.1, h.keep HFN.out.2.2.2, ?_, ?_⟩, HFN.out.2.2.2⟩
      · have := HFN.out.2.2.1
        rw [HCC.out]
        exact this.weak (fun _ e _ => e.elim)
      · have := HFN.out.2.1.readNo
        rw [← HE.out]
        exact this
end Go.Proofs.YtdgcohoneijleaaGreat
