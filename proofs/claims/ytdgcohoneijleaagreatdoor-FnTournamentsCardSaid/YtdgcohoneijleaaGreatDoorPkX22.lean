import Derived.Test.YtdgcohoneijleaaGreatDoorPkX8
import Derived.Test.YtdgcohoneijleaaGreatDoorPkX4
import Derived.Test.YtdgcohoneijleaaGreatDoorDf
set_option maxRecDepth 100000
namespace Go.Proofs.YtdgcohoneijleaaGreatDoor
open Go.RowKit
set_option maxHeartbeats 1000000 in
theorem GrowNil_any (n : Nat) (w : World) (hn : n ≤ 1048576) :
  Calls Tryz.prog 148 #[.slice none 0 0, .int .i64 (n : Int)] w (Ret fun r w' => OI w.heap.size w' r [] ∧ Chg No w w') := by
 have hn0 : (0 : Int) ≤ (n : Int) := Int.natCast_nonneg _
 have hw1 : IntKind.i64.wrap (n : Int) = (n : Int) := IntWalk.i64_in _ (by omega)
 by_cases hz : n = 0
 ·subst hz
  go_enter Tryz.func148, Tryz.ntmps148
  go_wp2_with fail
  go_ret
  exact ⟨_, rfl, OI.nil _ _, Chg.refl _ _⟩
 ·obtain ⟨i, hi, hz0, hz1, hz2⟩ := info_parts Tryz.infoInt
  have hpos : (0 : Int) < (n : Int) := by omega
  have hr := fun ty => Lib.run_append_nil_zeros (P := Tryz.prog) w 23 3 ty 3 i (.int .i64 0) .i64 .i64 Tryz.underlying23 Tryz.underlying3 hi hz0 n (by omega) (by rw [hz1]; omega) (by omega) (by rw [hz2]; omega)
  obtain ⟨C, hC⟩ : ∃ C, grownCap w n 0 3 = C := ⟨_, rfl⟩
  have hC1 := grownCap_ge w n 0 3
  have hC2 := grownCap_le_maxLen w n 0 3 (by unfold maxLen; omega)
  rw [hC] at hr hC1 hC2
  rw [zeros_int, zeros_int, Array.replicate_append_replicate, Nat.add_sub_of_le hC1] at hr
  have hO : OI w.heap.size (w.drew.alloc (.cells (Array.replicate C (Value.int .i64 0)) 3)) (.slice (some ⟨w.heap.size, 0, none⟩) 0 C) [] :=
   ⟨by simp, World.ownsRow_made w.drew (Array.replicate C (Value.int .i64 0)) C (Nat.le_refl _) hC2 (by simp)⟩
  have hK := (Chg.refl No w).drew.alloc (.cells (Array.replicate C (Value.int .i64 0)) 3)
  generalize w.drew.alloc (.cells (Array.replicate C (Value.int .i64 0)) 3) = W0 at hr hO hK
  have HO := Lib.hid hO
  have HK := Lib.hid hK
  unfold maxLen at hC2
  clear hO hK hz hC hz0 hz1 hz2
  go_enter Tryz.func148, Tryz.ntmps148
  go_wp2_with (at_builtin; refine Lib.wpList_append_run _ rfl (.tmp 20) (.tmp 21) _ _ rfl _ _ rfl rfl _ _ (hr _) ?_)
  go_wp2_with fail
  go_ret
  exact ⟨_, rfl, HO.out, HK.out⟩
theorem flat_succ (ll : List (List Int)) (k : Nat) (h : k < ll.length) : (ll.take (k + 1)).flatten = (ll.take k).flatten ++ ll.getD k [] := by
 rw [List.take_succ_eq_append_getElem h, List.flatten_append]
 simp [List.getD_eq_getElem?_getD, List.getElem?_eq_getElem h]
theorem tot_flat (ll : List (List Int)) : ll.flatten.length = tot ll := by
 induction ll with
 | nil => rfl
 | cons l ll ih => simp [tot, ih]
set_option maxHeartbeats 2000000 in
theorem Concat_any (v : Value) (ll : List (List Int)) (w : World) (h : RII No w v ll) (ht : tot ll ≤ 1048576) (hl : ll.length ≤ 1048576) :
  Calls Tryz.prog 108 #[v] w (Ret fun r w' => OI w.heap.size w' r ll.flatten ∧ Chg No w w') := by
 obtain ⟨_, vs, hvl, ⟨a, cap, rfl, hcap, hmax, hcl, _, hc⟩, hin⟩ := h
 have HI := Lib.hid hin
 have HV := Lib.hid hvl
 have HCL := Lib.hid hcl
 have HC := Lib.hid hc
 have HT := Lib.hid ht
 have hn0 : (0 : Int) ≤ (ll.length : Int) := Int.natCast_nonneg _
 clear hin hvl hcl hc ht
 go_enter Tryz.func108, Tryz.ntmps108
 go_wp2_with fail
 go_loopw [3, 11] (fun s z wr => ∃ k : Nat, k ≤ ll.length ∧ z = .int .i64 (k : Int) ∧ s = .int .i64 (tot (ll.take k) : Int) ∧ wr = w) (fun _ z _ => ll.length - (intOf z).toNat)
 case atStart => exact ⟨0, Nat.zero_le _, rfl, by simp [tot], rfl⟩
 case round =>
  obtain ⟨k, hk, rfl, rfl, rfl⟩ := hrel
  obtain ⟨m, hm⟩ : ∃ m, tot (ll.take k) = m := ⟨_, rfl⟩
  rw [hm]
  have hk0 : (0 : Int) ≤ (k : Int) := Int.natCast_nonneg _
  have hm0 : (0 : Int) ≤ (m : Int) := Int.natCast_nonneg _
  by_cases hlt : k < ll.length
  ·obtain ⟨b, off, rfl, _, hb, hcell⟩ := HC.out (by omega)
   have hck := hcell k (by rw [HCL.out]; omega)
   have hin := HI.out k hlt
   have hs := tot_succ ll k hlt
   have hle := tot_take ll (k + 1)
   generalize vs.getD k undef = x at hck hin
   obtain ⟨xa, xn, xc, rfl⟩ := hin.shape
   have hxn := hin.n.1
   rw [hm, ← hxn] at hs
   have hsum : m + xn ≤ 1048576 := by have := HT.out; omega
   have HS := Lib.hid hs
   have hw1 : IntKind.i64.wrap ((k : Int) + 1) = (k : Int) + 1 := IntWalk.i64_in _ (by omega)
   have hw2 : IntKind.i64.wrap ((m : Int) + (xn : Int)) = (m : Int) + (xn : Int) := IntWalk.i64_in _ (by omega)
   have hk1 : (k : Int) < (ll.length : Int) := by omega
   have hnn : ¬ (m : Int) + (xn : Int) < 0 := by omega
   clear hcell hm hs hle hin hxn
   go_wp2_with fail
   go_round
   case measure => simp [intOf]; omega
   case rel => exact ⟨k + 1, by omega, by go_num, by rw [HS.out]; exact congrArg (Value.int .i64) (by omega), by first | rfl | trivial⟩
  ·have hkl : k = ll.length := by omega
   subst hkl
   rw [List.take_length] at hm
   have hm1 : m ≤ 1048576 := by have := HT.out; omega
   clear hm
   go_wp2_with fail
   refine (GrowNil_any m wr hm1).mono ?_
   rintro e w1 ⟨v1, rfl, o1, k1⟩
   go_wp2_with fail
   go_loopw [6, 27] (fun o z wq => ∃ k : Nat, k ≤ ll.length ∧ z = .int .i64 (k : Int) ∧ OI wr.heap.size wq o (ll.take k).flatten ∧ Chg No wr wq) (fun _ z _ => ll.length - (intOf z).toNat)
   case atStart => exact ⟨0, Nat.zero_le _, rfl, by simpa using o1, k1⟩
   case round =>
    clear o1 k1
    obtain ⟨k, hk, rfl, ho, kk⟩ := hrel
    have hk0 : (0 : Int) ≤ (k : Int) := Int.natCast_nonneg _
    by_cases hlt : k < ll.length
    ·obtain ⟨b, off, rfl, _, hb, hcell⟩ := HC.out (by omega)
     have hck := (kk.cellD b _ hb (fun e => e)).trans (hcell k (by rw [HCL.out]; omega))
     have hin := (HI.out k hlt).keep kk
     have hs := flat_succ ll k hlt
     have hle := tot_take ll (k + 1)
     have htf := tot_flat (ll.take (k + 1))
     rw [hs, List.length_append] at htf
     generalize vs.getD k undef = x at hck hin
     obtain ⟨xa, xn, xc, rfl⟩ := hin.shape
     obtain ⟨oa, on, oc, rfl⟩ := ho.shape
     have hsum : (ll.take k).flatten.length + (ll.getD k []).length ≤ 17592186044416 := by have := HT.out; omega
     obtain ⟨lk, hlk⟩ : ∃ lk, ll.getD k [] = lk := ⟨_, rfl⟩
     rw [hlk] at hs hin hsum
     have HS := Lib.hid hs
     have HIN := Lib.hid hin
     have hw1 : IntKind.i64.wrap ((k : Int) + 1) = (k : Int) + 1 := IntWalk.i64_in _ (by omega)
     have hk1 : (k : Int) < (ll.length : Int) := by omega
     have hsz := kk.size
     obtain ⟨L, hL⟩ : ∃ L, (ll.take k).flatten = L := ⟨_, rfl⟩
     rw [hL] at ho hsum HS
     have HO := Lib.hid ho
     clear hcell hs hle hin htf hL ho hlk
     go_wp2_with (at_builtin; refine wapp rfl (.tmp 31) (.tmp 32) rfl HO.out HIN.out rfl rfl hsum hsz ?_)
     intro v7 w7 h7 k7 f7
     have hk7 := kk.step k7 (fun q e hl => by have := (HO.out.lt q e).1; omega)
     have HEND := Lib.hid (And.intro h7 hk7)
     obtain ⟨na, nn, nc, rfl⟩ := h7.shape
     clear h7 hk7 k7 f7 kk
     go_wp2_with fail
     go_round
     case measure => simp [intOf]; omega
     case rel => exact ⟨k + 1, by omega, by go_num, by rw [HS.out]; exact HEND.out.1, HEND.out.2⟩
    ·have hkl : k = ll.length := by omega
     subst hkl
     rw [List.take_length] at ho
     obtain ⟨oa, on, oc, rfl⟩ := ho.shape
     go_wp2_with fail
     go_ret
     exact ⟨_, rfl, ho, kk⟩
end Go.Proofs.YtdgcohoneijleaaGreatDoor
namespace Go.Proofs.YtdgcohoneijleaaGreatDoor
open Go.RowKit
noncomputable def resT (t : To) (k a b : Int) : To := if okStep t k a b then stepT t k a b else zeroT
theorem resT_no {t : To} {k a b : Int} (h : okStep t k a b = false) : resT t k a b = zeroT := by unfold resT; rw [h]; rfl
theorem resT_yes {t : To} {k a b : Int} (h : okStep t k a b = true) : resT t k a b = stepT t k a b := by unfold resT; rw [h]; rfl
set_option maxHeartbeats 4000000 in
theorem step1_any (v : Value) (t : To) (a b : Int) (w : World) (h : RT No w v t) (ht : tourB t = true) (ok : Bool) (hO : okJoin t a b = ok) (tv : To) (hV : (if okJoin t a b then joinT t a b else zeroT) = tv) :
  Calls Tryz.prog 62 #[v, stV 1 a b] w (Ret2 fun v0 v1 w' => v1 = .bool ok ∧ TA w.heap.size w' v0 tv ∧ Chg No w w') := by
 obtain ⟨k, hk⟩ : ∃ k : Int, k = 1 := ⟨_, rfl⟩
 rw [← hk]
 have HO := Lib.hid hO
 have HV := Lib.hid hV
 clear hO hV
 obtain ⟨hl1, hl2, hl3, hl4⟩ := tour_len ht
 have h0 := h
 have HT := Lib.hid ht
 obtain ⟨it, ps, rq⟩ := t
 obtain ⟨pv, qv, rfl, hps, hrq⟩ := h
 simp only at hps hrq hl1 hl2 hl3 hl4
 obtain ⟨qa, qc, rfl, _⟩ := id hrq
 obtain ⟨pa, cap, rfl, hcap, hmax, hlen, pf, mf, hl, hcl⟩ := id hps
 obtain ⟨n, hn⟩ : ∃ n, rq.length = n := ⟨_, rfl⟩
 have hW0 := boxes33 (w := w) (t := 31) (t' := 47) (t'' := 31) (x0 := .int .i64 it) (x1 := .slice pa ps.length cap) (x2 := .slice qa n qc) (y0 := .int .i64 k) (y1 := .int .i64 a) (y2 := .int .i64 b) (z0 := .int .i64 0) (z1 := .slice none 0 0) (z2 := .slice none 0 0)
  (R := fun W => Chg No w W ∧ Box3 W w.heap.size (.int .i64 it) (.slice pa ps.length cap) (.slice qa n qc) ∧ Box3 W (w.heap.size + 1) (.int .i64 k) (.int .i64 a) (.int .i64 b) ∧ Box3 W (w.heap.size + 1 + 1) (.int .i64 0) (.slice none 0 0) (.slice none 0 0)) (fun W k b0 b1 b2 => ⟨k, b0, b1, b2⟩)
 obtain ⟨kk, b0, b1, b2⟩ := hW0
 have hn0 : (0 : Int) ≤ (n : Int) := Int.natCast_nonneg _
 rw [hn] at h0 hl2 hrq ⊢
 have HN := Lib.hid hn
 obtain ⟨c0, c1, c2, _⟩ := id b0
 obtain ⟨d0, d1, d2, _⟩ := id b1
 clear hl hcl hps ht hn
 subst hk
 unfold stV
 have HSV := Lib.hid (sv_of HT.out)
 go_enter Tryz.func62, Tryz.ntmps62
 go_wp2_with fail
 refine (join_any _ _ a b _ (h0.keep kk) HSV.out).mono ?_
 rintro e w3 ⟨v3, v4, rfl, rfl, hTA, k3⟩
 rw [HV.out] at hTA
 rw [HO.out]
 clear c0 c1 c2 d0 d1 d2
 have hs0 := b2.lt
 replace b2 := b2.keep k3
 replace kk := kk.keep k3
 obtain ⟨e0, e1, e2, cf⟩ := id b2
 have cf0 := cf 0
 have cf1 := cf 1
 have cf2 := cf 2
 clear cf
 have hb2l := b2.lt
 obtain ⟨iN, p1, p2, p3, r1, r2, r3, rfl, hTN⟩ := hTA.put3 (b := w.heap.size + 1 + 1) (by omega)
 obtain ⟨z0, z1, z2, _⟩ := ((b2.set0 (.int .i64 iN)).set1 (.slice p1 p2 p3)).set2 (.slice r1 r2 r3)
 have HK := Lib.hid (kk.put3 (b := w.heap.size + 1 + 1) (fun h => by omega) (.int .i64 iN) (.slice p1 p2 p3) (.slice r1 r2 r3))
 have HTN := Lib.hid (hTN.weak (base' := w.heap.size) (by omega))
 clear hTA hTN kk b2
 go_wp2_with fail
 exact bodyPost_ret (v := .tuple #[.agg #[.int .i64 iN, .slice p1 p2 p3, .slice r1 r2 r3], .bool ok]) (by simp [results, Tryz.results62, go_sem, z0, z1, z2]) rfl ⟨_, _, rfl, rfl, HTN.out, HK.out⟩
set_option maxHeartbeats 4000000 in
theorem step6_any (v : Value) (t : To) (a b : Int) (w : World) (h : RT No w v t) (ht : tourB t = true) (ok : Bool) (hO : okCr t a b = ok) (tv : To) (hV : crV t a b = tv) :
  Calls Tryz.prog 62 #[v, stV 6 a b] w (Ret2 fun v0 v1 w' => v1 = .bool ok ∧ TA w.heap.size w' v0 tv ∧ Chg No w w') := by
 obtain ⟨k, hk⟩ : ∃ k : Int, k = 6 := ⟨_, rfl⟩
 rw [← hk]
 have HO := Lib.hid hO
 have HV := Lib.hid hV
 clear hO hV
 obtain ⟨hl1, hl2, hl3, hl4⟩ := tour_len ht
 have h0 := h
 have HT := Lib.hid ht
 obtain ⟨it, ps, rq⟩ := t
 obtain ⟨pv, qv, rfl, hps, hrq⟩ := h
 simp only at hps hrq hl1 hl2 hl3 hl4
 obtain ⟨qa, qc, rfl, _⟩ := id hrq
 obtain ⟨pa, cap, rfl, hcap, hmax, hlen, pf, mf, hl, hcl⟩ := id hps
 obtain ⟨n, hn⟩ : ∃ n, rq.length = n := ⟨_, rfl⟩
 have hW0 := boxes33 (w := w) (t := 31) (t' := 47) (t'' := 31) (x0 := .int .i64 it) (x1 := .slice pa ps.length cap) (x2 := .slice qa n qc) (y0 := .int .i64 k) (y1 := .int .i64 a) (y2 := .int .i64 b) (z0 := .int .i64 0) (z1 := .slice none 0 0) (z2 := .slice none 0 0)
  (R := fun W => Chg No w W ∧ Box3 W w.heap.size (.int .i64 it) (.slice pa ps.length cap) (.slice qa n qc) ∧ Box3 W (w.heap.size + 1) (.int .i64 k) (.int .i64 a) (.int .i64 b) ∧ Box3 W (w.heap.size + 1 + 1) (.int .i64 0) (.slice none 0 0) (.slice none 0 0)) (fun W k b0 b1 b2 => ⟨k, b0, b1, b2⟩)
 obtain ⟨kk, b0, b1, b2⟩ := hW0
 have hn0 : (0 : Int) ≤ (n : Int) := Int.natCast_nonneg _
 rw [hn] at h0 hl2 hrq ⊢
 have HN := Lib.hid hn
 obtain ⟨c0, c1, c2, _⟩ := id b0
 obtain ⟨d0, d1, d2, _⟩ := id b1
 clear hl hcl hps ht hn
 subst hk
 unfold stV
 go_enter Tryz.func62, Tryz.ntmps62
 go_wp2_with fail
 have hR := h0.keep kk
 have hC : ∀ ww, RT No ww _ ⟨it, ps, rq⟩ → Calls Tryz.prog 105 #[.agg #[.int .i64 it, .slice pa ps.length cap, .slice qa n qc], .int .i64 a, .int .i64 b] ww (Ret2 fun v0 v1 w' => v1 = .bool (okCr ⟨it, ps, rq⟩ a b) ∧ TA ww.heap.size w' v0 (crV ⟨it, ps, rq⟩ a b) ∧ Chg No ww w') := fun ww hw => by
  cases hh : hasP ⟨it, ps, rq⟩ a
  ·exact cruelly0_any _ ⟨it, ps, rq⟩ a b ww hw HT.out hh
  ·exact cruelly1_any _ ⟨it, ps, rq⟩ a b ww hw HT.out hh
 refine (hC _ hR).mono ?_
 rintro e w3 ⟨v3, v4, rfl, rfl, hTA, k3⟩
 clear hC hR
 rw [HV.out] at hTA
 rw [HO.out]
 clear c0 c1 c2 d0 d1 d2
 have hs0 := b2.lt
 replace b2 := b2.keep k3
 replace kk := kk.keep k3
 obtain ⟨e0, e1, e2, cf⟩ := id b2
 have cf0 := cf 0
 have cf1 := cf 1
 have cf2 := cf 2
 clear cf
 have hb2l := b2.lt
 obtain ⟨iN, p1, p2, p3, r1, r2, r3, rfl, hTN⟩ := hTA.put3 (b := w.heap.size + 1 + 1) (by omega)
 obtain ⟨z0, z1, z2, _⟩ := ((b2.set0 (.int .i64 iN)).set1 (.slice p1 p2 p3)).set2 (.slice r1 r2 r3)
 have HK := Lib.hid (kk.put3 (b := w.heap.size + 1 + 1) (fun h => by omega) (.int .i64 iN) (.slice p1 p2 p3) (.slice r1 r2 r3))
 have HTN := Lib.hid (hTN.weak (base' := w.heap.size) (by omega))
 clear hTA hTN kk b2
 go_wp2_with fail
 exact bodyPost_ret (v := .tuple #[.agg #[.int .i64 iN, .slice p1 p2 p3, .slice r1 r2 r3], .bool ok]) (by simp [results, Tryz.results62, go_sem, z0, z1, z2]) rfl ⟨_, _, rfl, rfl, HTN.out, HK.out⟩
set_option maxHeartbeats 4000000 in
theorem stepB_any (v : Value) (t : To) (k a b : Int) (w : World) (h : RT No w v t) (ht : tourB t = true) (e1 : ¬ k = 1) (e6 : ¬ k = 6) (hb : ¬ b = 0) :
  Calls Tryz.prog 62 #[v, stV k a b] w (Ret2 fun v0 v1 w' => v1 = .bool false ∧ TA w.heap.size w' v0 zeroT ∧ Chg No w w') := by
 obtain ⟨hl1, hl2, hl3, hl4⟩ := tour_len ht
 have h0 := h
 have HT := Lib.hid ht
 obtain ⟨it, ps, rq⟩ := t
 obtain ⟨pv, qv, rfl, hps, hrq⟩ := h
 simp only at hps hrq hl1 hl2 hl3 hl4
 obtain ⟨qa, qc, rfl, _⟩ := id hrq
 obtain ⟨pa, cap, rfl, hcap, hmax, hlen, pf, mf, hl, hcl⟩ := id hps
 obtain ⟨n, hn⟩ : ∃ n, rq.length = n := ⟨_, rfl⟩
 have hW0 := boxes33 (w := w) (t := 31) (t' := 47) (t'' := 31) (x0 := .int .i64 it) (x1 := .slice pa ps.length cap) (x2 := .slice qa n qc) (y0 := .int .i64 k) (y1 := .int .i64 a) (y2 := .int .i64 b) (z0 := .int .i64 0) (z1 := .slice none 0 0) (z2 := .slice none 0 0)
  (R := fun W => Chg No w W ∧ Box3 W w.heap.size (.int .i64 it) (.slice pa ps.length cap) (.slice qa n qc) ∧ Box3 W (w.heap.size + 1) (.int .i64 k) (.int .i64 a) (.int .i64 b) ∧ Box3 W (w.heap.size + 1 + 1) (.int .i64 0) (.slice none 0 0) (.slice none 0 0)) (fun W k b0 b1 b2 => ⟨k, b0, b1, b2⟩)
 obtain ⟨kk, b0, b1, b2⟩ := hW0
 have hn0 : (0 : Int) ≤ (n : Int) := Int.natCast_nonneg _
 rw [hn] at h0 hl2 hrq ⊢
 have HN := Lib.hid hn
 obtain ⟨c0, c1, c2, _⟩ := id b0
 obtain ⟨d0, d1, d2, _⟩ := id b1
 clear hl hcl hps ht hn
 unfold stV
 go_enter Tryz.func62, Tryz.ntmps62
 go_wp2_with fail
 obtain ⟨z0, z1, z2, _⟩ := id b2
 exact bodyPost_ret (v := .tuple #[.agg #[.int .i64 0, .slice none 0 0, .slice none 0 0], .bool false]) (by simp [results, Tryz.results62, go_sem, z0, z1, z2]) rfl ⟨_, _, rfl, rfl, TA.zero _ _, kk⟩
set_option maxHeartbeats 4000000 in
theorem step2f_any (v : Value) (t : To) (a : Int) (w : World) (h : RT No w v t) (ht : tourB t = true) (hc : (inB a 0 (t.items - 1) && decide (t.reqs.length < 60)) = false) :
  Calls Tryz.prog 62 #[v, stV 2 a 0] w (Ret2 fun v0 v1 w' => v1 = .bool false ∧ TA w.heap.size w' v0 zeroT ∧ Chg No w w') := by
 obtain ⟨k, hk⟩ : ∃ k : Int, k = 2 := ⟨_, rfl⟩
 obtain ⟨b, hb⟩ : ∃ b : Int, b = 0 := ⟨_, rfl⟩
 rw [← hk, ← hb]
 have HC := Lib.hid hc
 clear hc
 obtain ⟨hl1, hl2, hl3, hl4⟩ := tour_len ht
 have h0 := h
 have HT := Lib.hid ht
 obtain ⟨it, ps, rq⟩ := t
 obtain ⟨pv, qv, rfl, hps, hrq⟩ := h
 simp only at hps hrq hl1 hl2 hl3 hl4
 obtain ⟨qa, qc, rfl, _⟩ := id hrq
 obtain ⟨pa, cap, rfl, hcap, hmax, hlen, pf, mf, hl, hcl⟩ := id hps
 obtain ⟨n, hn⟩ : ∃ n, rq.length = n := ⟨_, rfl⟩
 have hW0 := boxes33 (w := w) (t := 31) (t' := 47) (t'' := 31) (x0 := .int .i64 it) (x1 := .slice pa ps.length cap) (x2 := .slice qa n qc) (y0 := .int .i64 k) (y1 := .int .i64 a) (y2 := .int .i64 b) (z0 := .int .i64 0) (z1 := .slice none 0 0) (z2 := .slice none 0 0)
  (R := fun W => Chg No w W ∧ Box3 W w.heap.size (.int .i64 it) (.slice pa ps.length cap) (.slice qa n qc) ∧ Box3 W (w.heap.size + 1) (.int .i64 k) (.int .i64 a) (.int .i64 b) ∧ Box3 W (w.heap.size + 1 + 1) (.int .i64 0) (.slice none 0 0) (.slice none 0 0)) (fun W k b0 b1 b2 => ⟨k, b0, b1, b2⟩)
 obtain ⟨kk, b0, b1, b2⟩ := hW0
 have hn0 : (0 : Int) ≤ (n : Int) := Int.natCast_nonneg _
 rw [hn] at h0 hl2 hrq ⊢
 have HN := Lib.hid hn
 obtain ⟨c0, c1, c2, _⟩ := id b0
 obtain ⟨d0, d1, d2, _⟩ := id b1
 clear hl hcl hps ht hn
 subst hk
 subst hb
 have hw1 : IntKind.i64.wrap (it - 1) = it - 1 := IntWalk.i64_in _ (by omega)
 unfold stV
 have hC := HC.out
 simp only at hC
 rw [HN.out] at hC
 cases hi : inB a 0 (it - 1)
 ·have HI := Lib.hid hi
  clear hi hC
  go_enter Tryz.func62, Tryz.ntmps62
  go_wp2_with fail
  refine (within_any _ _ _ _).mono ?_
  rintro e w1 ⟨rfl, rfl⟩
  rw [HI.out]
  go_wp2_with fail
  obtain ⟨z0, z1, z2, _⟩ := id b2
  exact bodyPost_ret (v := .tuple #[.agg #[.int .i64 0, .slice none 0 0, .slice none 0 0], .bool false]) (by simp [results, Tryz.results62, go_sem, z0, z1, z2]) rfl ⟨_, _, rfl, rfl, TA.zero _ _, kk⟩
 ·have HI := Lib.hid hi
  rw [hi, Bool.true_and] at hC
  have hn6 : ¬ (n : Int) < 60 := by have := of_decide_eq_false hC; omega
  clear hi hC
  go_enter Tryz.func62, Tryz.ntmps62
  go_wp2_with fail
  refine (within_any _ _ _ _).mono ?_
  rintro e w1 ⟨rfl, rfl⟩
  rw [HI.out]
  go_wp2_with fail
  obtain ⟨z0, z1, z2, _⟩ := id b2
  exact bodyPost_ret (v := .tuple #[.agg #[.int .i64 0, .slice none 0 0, .slice none 0 0], .bool false]) (by simp [results, Tryz.results62, go_sem, z0, z1, z2]) rfl ⟨_, _, rfl, rfl, TA.zero _ _, kk⟩
end Go.Proofs.YtdgcohoneijleaaGreatDoor
