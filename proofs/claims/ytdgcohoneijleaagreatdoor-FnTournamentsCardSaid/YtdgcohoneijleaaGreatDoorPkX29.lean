import Derived.Test.YtdgcohoneijleaaGreatDoorTe
import Derived.Test.YtdgcohoneijleaaGreatDoorPkX13
import Derived.Test.YtdgcohoneijleaaGreatDoorPkX8
import Derived.Test.YtdgcohoneijleaaGreatDoorIg
import Derived.Test.YtdgcohoneijleaaGreatDoorIu
import Derived.Test.YtdgcohoneijleaaGreatDoorIp
import Derived.Test.YtdgcohoneijleaaGreatDoorIn
import Derived.Test.YtdgcohoneijleaaGreatDoorPkX24
set_option maxRecDepth 100000
namespace Go.Proofs.YtdgcohoneijleaaGreatDoor
open Go.RowKit
set_option maxHeartbeats 1000000 in
theorem specIsTournament_any (v : Value) (t : To) (w : World) (h : RT No w v t) :
  Calls Tryz.prog 26 #[v] w (Ret fun r w' => r = .bool (tourB t) ∧ Chg No w w') := by
 have h0 := h
 obtain ⟨pv, rv, rfl, hps, hrq⟩ := h
 obtain ⟨ra, rn, rc, rfl⟩ := hrq.shape
 obtain ⟨pa, pn, pc, rfl⟩ := hps.shape
 go_enter Tryz.func26, Tryz.ntmps26
 go_wp2_with fail
 refine box31 (R := fun W => Calls _ _ _ W _) (fun W kW b0 => ?_)
 refine (l12Tour_any _ t W (h0.keep kW)).mono ?_
 rintro e w1 ⟨_, rfl, rfl, k1⟩
 go_wp2_with fail
 go_ret
 exact ⟨_, rfl, rfl, kW.keep k1⟩
end Go.Proofs.YtdgcohoneijleaaGreatDoor
namespace Go.Proofs.YtdgcohoneijleaaGreatDoor
open Go.RowKit
def ttxT (t : To) : List UInt8 := if tourB t then touT t else []
theorem implText_any (v : Value) (t : To) (w : World) (h : RT No w v t) (hw : Lay w) :
  Calls Tryz.prog 9 #[v] w fun e w' => e = .returned (.tuple #[.string ⟨(ttxT t).toArray⟩, .bool (tourB t)]) ∧ Chg No w w' := by
 have h0 := h
 obtain ⟨it, ps, rq⟩ := t
 obtain ⟨pv, rv, rfl, hps, hrq⟩ := h
 simp only at hps hrq
 obtain ⟨ra, rn, rc, rfl⟩ := hrq.shape
 obtain ⟨pa, pn, pc, rfl⟩ := hps.shape
 clear hps hrq
 have k0 := (Chg.refl No w).alloc (.cells #[.int .i64 it, .slice pa pn pc, .slice ra rn rc] 31)
 have b0 := Box3.new w (.int .i64 it) (.slice pa pn pc) (.slice ra rn rc) 31
 cases ht : tourB ⟨it, ps, rq⟩
 ·have HT := Lib.hid ht
  have HX : Hid (ttxT ⟨it, ps, rq⟩ = []) := Lib.hid (by unfold ttxT; rw [ht]; rfl)
  clear ht
  go_enter Tryz.func9, Tryz.ntmps9
  go_wp2_with fail
  refine (IsTournament_any _ ⟨it, ps, rq⟩ _ (h0.keep k0)).mono ?_
  rintro e w1 ⟨_, rfl, rfl, k1⟩
  rw [HT.out]
  go_wp2_with fail
  go_ret2
  exact ⟨ret2_eq (by rw [HX.out]; rfl) rfl, k0.keep k1⟩
 ·have HT := Lib.hid ht
  have HX : Hid (ttxT ⟨it, ps, rq⟩ = touT ⟨it, ps, rq⟩) := Lib.hid (by unfold ttxT; rw [ht]; rfl)
  clear ht
  go_enter Tryz.func9, Tryz.ntmps9
  go_wp2_with fail
  refine (IsTournament_any _ ⟨it, ps, rq⟩ _ (h0.keep k0)).mono ?_
  rintro e w1 ⟨_, rfl, rfl, k1⟩
  rw [HT.out]
  have b1 := b0.keep k1
  have kk := k0.keep k1
  obtain ⟨c0, c1, c2, _⟩ := id b1
  go_wp2_with fail
  refine (tournamentText_any _ ⟨it, ps, rq⟩ _ (h0.keep kk) HT.out (hw.keep kk)).mono ?_
  rintro e w2 ⟨rfl, k2⟩
  go_wp2_with fail
  go_ret2
  exact ⟨ret2_eq (by rw [HX.out]; rfl) rfl, kk.keep k2⟩
theorem specText_any (v : Value) (t : To) (w : World) (h : RT No w v t) :
  Calls Tryz.prog 7 #[v] w fun e w' => e = .returned (.tuple #[.string ⟨(ttxT t).toArray⟩, .bool (tourB t)]) ∧ Chg No w w' := by
 have h0 := h
 obtain ⟨it, ps, rq⟩ := t
 obtain ⟨pv, rv, rfl, hps, hrq⟩ := h
 simp only at hps hrq
 obtain ⟨ra, rn, rc, rfl⟩ := hrq.shape
 obtain ⟨pa, pn, pc, rfl⟩ := hps.shape
 clear hps hrq
 have k0 := (Chg.refl No w).alloc (.cells #[.int .i64 it, .slice pa pn pc, .slice ra rn rc] 31)
 have b0 := Box3.new w (.int .i64 it) (.slice pa pn pc) (.slice ra rn rc) 31
 cases ht : tourB ⟨it, ps, rq⟩
 ·have HT := Lib.hid ht
  have HX : Hid (ttxT ⟨it, ps, rq⟩ = []) := Lib.hid (by unfold ttxT; rw [ht]; rfl)
  clear ht
  go_enter Tryz.func7, Tryz.ntmps7
  go_wp2_with fail
  refine (l12Tour_any _ ⟨it, ps, rq⟩ _ (h0.keep k0)).mono ?_
  rintro e w1 ⟨_, rfl, rfl, k1⟩
  rw [HT.out]
  go_wp2_with fail
  go_ret2
  exact ⟨ret2_eq (by rw [HX.out]; rfl) rfl, k0.keep k1⟩
 ·have HT := Lib.hid ht
  have HX : Hid (ttxT ⟨it, ps, rq⟩ = touT ⟨it, ps, rq⟩) := Lib.hid (by unfold ttxT; rw [ht]; rfl)
  clear ht
  go_enter Tryz.func7, Tryz.ntmps7
  go_wp2_with fail
  refine (l12Tour_any _ ⟨it, ps, rq⟩ _ (h0.keep k0)).mono ?_
  rintro e w1 ⟨_, rfl, rfl, k1⟩
  rw [HT.out]
  have b1 := b0.keep k1
  have kk := k0.keep k1
  obtain ⟨c0, c1, c2, _⟩ := id b1
  go_wp2_with fail
  refine (l12Text_any _ ⟨it, ps, rq⟩ _ (h0.keep kk) HT.out).mono ?_
  rintro e w2 ⟨rfl, k2⟩
  go_wp2_with fail
  go_ret2
  exact ⟨ret2_eq (by rw [HX.out]; rfl) rfl, kk.keep k2⟩
end Go.Proofs.YtdgcohoneijleaaGreatDoor
namespace Go.Proofs.YtdgcohoneijleaaGreatDoor
open Go.RowKit
def BX (W : World) (L : List (Nat × Value × To)) : Prop := ∀ b v t, (b, v, t) ∈ L → ∃ pa pn pc ra rn rc, v = .agg #[.int .i64 t.items, .slice pa pn pc, .slice ra rn rc] ∧ Box3 W b (.int .i64 t.items) (.slice pa pn pc) (.slice ra rn rc) ∧ RT No W v t
theorem BX.nil (W : World) : BX W [] := fun _ _ _ h => by simp at h
theorem BX.keep {W W' : World} {L : List (Nat × Value × To)} (h : BX W L) (hc : Chg No W W') : BX W' L := fun b v t hm => by
 obtain ⟨pa, pn, pc, ra, rn, rc, h1, h2, h3⟩ := h b v t hm
 exact ⟨pa, pn, pc, ra, rn, rc, h1, h2.keep hc, h3.keep hc⟩
theorem BX.cons {W : World} {L : List (Nat × Value × To)} (h : BX W L) {t : To} {pa ra : Option Addr} {pn pc rn rc : Nat} (hr : RT No W (.agg #[.int .i64 t.items, .slice pa pn pc, .slice ra rn rc]) t) (T : TypeId) :
  BX (W.alloc (.cells #[.int .i64 t.items, .slice pa pn pc, .slice ra rn rc] T)) ((W.heap.size, .agg #[.int .i64 t.items, .slice pa pn pc, .slice ra rn rc], t) :: L) := fun b v u hm => by
 have ka := (Chg.refl No W).alloc (.cells #[.int .i64 t.items, .slice pa pn pc, .slice ra rn rc] T)
 rcases List.mem_cons.1 hm with e | hm
 ·simp only [Prod.mk.injEq] at e
  obtain ⟨rfl, rfl, rfl⟩ := e
  exact ⟨_, _, _, _, _, _, rfl, Box3.new W _ _ _ T, hr.keep ka⟩
 ·exact (h.keep ka) b v u hm
theorem BX.at {W : World} {L : List (Nat × Value × To)} (h : BX W L) {b : Nat} {t : To} {pa ra : Option Addr} {pn pc rn rc : Nat} (hm : (b, .agg #[.int .i64 t.items, .slice pa pn pc, .slice ra rn rc], t) ∈ L) :
  W.cell? ⟨b, 0, none⟩ = some (.int .i64 t.items) ∧ W.cell? ⟨b, 1, none⟩ = some (.slice pa pn pc) ∧ W.cell? ⟨b, 2, none⟩ = some (.slice ra rn rc) ∧ RT No W (.agg #[.int .i64 t.items, .slice pa pn pc, .slice ra rn rc]) t := by
 obtain ⟨_, _, _, _, _, _, e, h2, h3⟩ := h b _ t hm
 simp only [Value.agg.injEq] at e
 have e2 := congrArg Array.toList e
 simp only [List.cons.injEq, Value.slice.injEq, and_true, true_and] at e2
 obtain ⟨⟨rfl, rfl, rfl⟩, rfl, rfl, rfl⟩ := e2
 exact ⟨h2.c0, h2.c1, h2.c2, h3⟩
theorem RT.shp {A : Nat → Prop} {w : World} {v : Value} {t : To} (h : RT A w v t) : ∃ pa pn pc ra rn rc, v = .agg #[.int .i64 t.items, .slice pa pn pc, .slice ra rn rc] := by
 obtain ⟨pv, rv, rfl, hps, hrq⟩ := h
 obtain ⟨pa, pn, pc, rfl⟩ := hps.shape
 obtain ⟨ra, rn, rc, rfl⟩ := hrq.shape
 exact ⟨_, _, _, _, _, _, rfl⟩
theorem TA.rtn {base : Nat} {w : World} {v : Value} {t : To} (h : TA base w v t) (hn : t.ps.length ≤ 1048576) : RT No w v t := h.rt hn (fun _ _ e => e)
theorem ttx_len (t : To) : (ttxT t).length ≤ 9000 := by
 unfold ttxT
 cases h : tourB t with
 | false => simp
 | true =>
  have := tjT_len h t.ps.length (Nat.le_refl _)
  have h4 := (tour_len h).1
  rw [tjT_full] at this
  simp only [if_true]
  omega
theorem ttx_back {t : To} (h : tourB t = true) : parT (ttxT t) = some t := by
 unfold ttxT
 rw [if_pos h]
 exact parT_some.2 ⟨h, rfl⟩
theorem parT_ps (s : List UInt8) : ((parT s).getD zeroT).ps.length ≤ 1048576 := by
 cases e : parT s with
 | none => simp [zeroT]
 | some t => have := (tour_len (parT_some.1 e).1).1; simp only [Option.getD_some]; omega
theorem stS_ps (t : To) (k a b : Int) : (stS t k a b).ps.length ≤ 1048576 := by
 unfold stS
 cases h : okS t k a b with
 | false => simp [zeroT]
 | true =>
  unfold okS at h
  rw [Bool.and_eq_true] at h
  have := (tour_len (tour_step h.1 k a b h.2)).1
  simp only [if_true]; omega
theorem stS_ok {t : To} {k a b : Int} (h : okS t k a b = true) : tourB (stS t k a b) = true := by
 unfold stS
 rw [if_pos h]
 unfold okS at h
 rw [Bool.and_eq_true] at h
 exact tour_step h.1 k a b h.2
set_option maxHeartbeats 4000000 in
theorem law_FnTournaments (v : Value) (N : Nat) (w : World) (h : Code w v N) (hw : LayE w) :
  Calls Tryz.prog 5 #[v] w fun e w' => e = .returned (.bool true) ∧ Chg No w w' := by
 obtain ⟨a, cp, rfl⟩ := h.shape
 go_enter Tryz.func5, Tryz.ntmps5
 go_wp2_with fail
 refine (vBig_any _ _ _ h).mono ?_
 rintro e w' ⟨rfl, rfl⟩
 by_cases hbig : (65536 : Int) < (N : Int)
 ·go_wp2_with fail
  go_ret
  exact ⟨rfl, Chg.refl No _⟩
 ·have HC := Lib.hid (fun W (hk : Chg No w' W) => h.keep hk)
  have HLE := Lib.hid (fun W (hk : Chg No w' W) => hw.keep hk)
  have hN : N ≤ 70000 := by omega
  have hN1 : N ≤ 70001 := by omega
  clear hw
  go_wp2_with fail
  refine (DrawNewTournament_any _ N w' h hN1).mono ?_
  rintro e w1 ⟨n, rfl, _, _, kk⟩
  have hL := BX.nil w1
  clear h
  have q1 := Lib.hid (fun W => implNewT_any n W)
  have q2 := Lib.hid (fun W => specNewT_any n W)
  obtain ⟨ok4, hok4⟩ : ∃ x, inB n 1 8 = x := ⟨_, rfl⟩
  have ht4 : (newT n).ps.length ≤ 1048576 := by simp [newT]
  obtain ⟨t4, ht4'⟩ : ∃ x, newT n = x := ⟨_, rfl⟩
  rw [hok4, ht4'] at q1 q2
  rw [ht4'] at ht4
  clear hok4 ht4'
  go_wp2_with fail
  refine (q1.out w1).mono ?_
  rintro e w2 ⟨v0, _, rfl, rfl, hA, k2⟩
  have hr := hA.rtn ht4
  obtain ⟨pa4, pn4, pc4, ra4, rn4, rc4, rfl⟩ := hr.shp
  replace hL := (hL.keep k2).cons hr 31
  replace kk := (kk.trans k2).alloc (.cells #[.int .i64 t4.items, .slice pa4 pn4 pc4, .slice ra4 rn4 rc4] 31)
  clear hr
  go_wp2_with fail
  generalize w2.alloc (.cells #[.int .i64 t4.items, .slice pa4 pn4 pc4, .slice ra4 rn4 rc4] 31) = W2 at hL kk ⊢
  obtain ⟨b4, hBN⟩ : ∃ b4, w2.heap.size = b4 := ⟨_, rfl⟩
  rw [hBN] at hL ⊢
  clear hBN
  refine (q2.out W2).mono ?_
  rintro e w3 ⟨v0, _, rfl, rfl, hA3, k3⟩
  have hr := hA3.rtn ht4
  obtain ⟨pa6, pn6, pc6, ra6, rn6, rc6, rfl⟩ := hr.shp
  replace hL := (hL.keep k3).cons hr 31
  replace kk := (kk.trans k3).alloc (.cells #[.int .i64 t4.items, .slice pa6 pn6 pc6, .slice ra6 rn6 rc6] 31)
  clear hr
  go_wp2_with fail
  generalize w3.alloc (.cells #[.int .i64 t4.items, .slice pa6 pn6 pc6, .slice ra6 rn6 rc6] 31) = W3 at hL kk ⊢
  obtain ⟨b6, hBN⟩ : ∃ b6, w3.heap.size = b6 := ⟨_, rfl⟩
  rw [hBN] at hL ⊢
  clear hBN
  refine (vCut_any _ N 1 W3 (HC.out _ kk) hN (by omega)).mono ?_
  rintro e w4 ⟨c1, n1, rfl, hc1, hn1, k4⟩
  obtain ⟨ca1, cq1, rfl⟩ := hc1.shape
  go_wp2_with fail
  refine (DrawIsTournament_any _ n1 w4 hc1 hn1).mono ?_
  rintro e w5 ⟨v0, u, rfl, hr, _, _, k5⟩
  have k45 := k4.trans k5
  obtain ⟨pa8, pn8, pc8, ra8, rn8, rc8, rfl⟩ := hr.shp
  replace hL := (hL.keep k45).cons hr 31
  replace kk := (kk.trans k45).alloc (.cells #[.int .i64 u.items, .slice pa8 pn8 pc8, .slice ra8 rn8 rc8] 31)
  clear hr
  clear k2 k3 k4 k5 k45 hA hA3 hc1
  have q3 := Lib.hid (fun v W h => IsTournament_any v u W h)
  have q4 := Lib.hid (fun v W h => specIsTournament_any v u W h)
  have q5 := Lib.hid (fun v W h hl => implText_any v u W h hl)
  have q6 := Lib.hid (fun v W h => specText_any v u W h)
  have HXL := ttx_len u
  have HXB : Hid (tourB u = true → parT (ttxT u) = some u) := Lib.hid (fun h => ttx_back h)
  obtain ⟨X, hX⟩ : ∃ X, ttxT u = X := ⟨_, rfl⟩
  obtain ⟨is, his⟩ : ∃ x, tourB u = x := ⟨_, rfl⟩
  rw [his] at q3 q4 HXB
  rw [hX] at HXL HXB
  rw [hX, his] at q5 q6
  clear hX his
  obtain ⟨e0, e1, e2, hr⟩ := hL.at (List.mem_cons_self ..)
  go_wp2_with fail
  clear e0 e1 e2
  generalize w5.alloc (.cells #[.int .i64 u.items, .slice pa8 pn8 pc8, .slice ra8 rn8 rc8] 31) = W5 at hL kk ⊢
  obtain ⟨b8, hBN⟩ : ∃ b8, w5.heap.size = b8 := ⟨_, rfl⟩
  rw [hBN] at hL ⊢
  clear hBN
  have q8 := Lib.hid (fun W (h : LayE W) => implParse_any X W (by omega) h)
  have ht20 := parT_ps X
  have HT20 : Hid (is = true → (parT X).getD zeroT = u ∧ (parT X).isSome = true) := Lib.hid (fun h => by rw [HXB.out h]; exact ⟨rfl, rfl⟩)
  obtain ⟨t20, ht20'⟩ : ∃ x, (parT X).getD zeroT = x := ⟨_, rfl⟩
  obtain ⟨ok20, hok20⟩ : ∃ x, (parT X).isSome = x := ⟨_, rfl⟩
  rw [ht20'] at ht20
  rw [ht20', hok20] at q8 HT20
  clear ht20' hok20 HXB hr
  have hr := (hL.at (b := b8) (t := u) (pa := pa8) (pn := pn8) (pc := pc8) (ra := ra8) (rn := rn8) (rc := rc8) (by simp)).2.2.2
  refine (q3.out _ W5 hr).mono ?_
  rintro e w6 ⟨_, rfl, rfl, k6⟩
  replace hL := hL.keep k6
  replace kk := kk.trans k6
  clear k6
  clear hr
  go_wp2_with fail
  refine (vCut_any _ N 2 w6 (HC.out _ kk) hN (by omega)).mono ?_
  rintro e w7 ⟨c2, n2, rfl, hc2, hn2, k7⟩
  obtain ⟨ca2, cq2, rfl⟩ := hc2.shape
  replace hL := hL.keep k7
  replace kk := kk.trans k7
  clear k7
  go_wp2_with fail
  refine (DrawStepTournament_any _ n2 w7 hc2 hn2).mono ?_
  rintro e w8 ⟨v0, x, k, p, q, rfl, hr, _, _, k8⟩
  obtain ⟨pa10, pn10, pc10, ra10, rn10, rc10, rfl⟩ := hr.shp
  replace hL := (hL.keep k8).cons hr 31
  replace kk := (kk.trans k8).alloc (.cells #[.int .i64 x.items, .slice pa10 pn10 pc10, .slice ra10 rn10 rc10] 31)
  clear hr
  clear k8 hc2
  have b11 := Box3.new (w8.alloc (.cells #[.int .i64 x.items, .slice pa10 pn10 pc10, .slice ra10 rn10 rc10] 31)) (.int .i64 k) (.int .i64 p) (.int .i64 q) 47
  have ks := (Chg.refl No (w8.alloc (.cells #[.int .i64 x.items, .slice pa10 pn10 pc10, .slice ra10 rn10 rc10] 31))).alloc (.cells #[.int .i64 k, .int .i64 p, .int .i64 q] 47)
  rw [World.size_alloc] at b11
  replace hL := hL.keep ks
  replace kk := kk.trans ks
  clear ks
  obtain ⟨e0, e1, e2, r10⟩ := hL.at (b := w8.heap.size) (t := x) (pa := pa10) (pn := pn10) (pc := pc10) (ra := ra10) (rn := rn10) (rc := rc10) (by simp)
  obtain ⟨f0, f1, f2, _⟩ := id b11
  have HOK := Lib.hid (fun h => @stS_ok x k p q h)
  have htv := stS_ps x k p q
  have q11 := Lib.hid (fun v W h => implStep_any v x k p q W h _ rfl _ rfl)
  have q12 := Lib.hid (fun v W h => specStep_any v x k p q W h _ rfl _ rfl)
  obtain ⟨tv, htv'⟩ : ∃ y, stS x k p q = y := ⟨_, rfl⟩
  obtain ⟨ok12, hok12⟩ : ∃ y, okS x k p q = y := ⟨_, rfl⟩
  rw [htv'] at htv
  rw [htv', hok12] at q11 q12 HOK
  unfold stV at q11 q12
  clear htv' hok12
  go_wp2_with fail
  generalize (w8.alloc (.cells #[.int .i64 x.items, .slice pa10 pn10 pc10, .slice ra10 rn10 rc10] 31)).alloc (.cells #[.int .i64 k, .int .i64 p, .int .i64 q] 47) = W8 at hL kk b11 r10 e0 e1 e2 f0 f1 f2 ⊢
  obtain ⟨b10, hb10⟩ : ∃ y, w8.heap.size = y := ⟨_, rfl⟩
  rw [hb10] at hL b11 e0 e1 e2 f0 f1 f2 ⊢
  clear hb10
  refine (q11.out _ W8 r10).mono ?_
  rintro e w9 ⟨v0, _, rfl, rfl, hA, k9⟩
  have hr := hA.rtn htv
  replace b11 := (b11.keep k9)
  clear e0 e1 e2 f0 f1 f2 r10
  obtain ⟨pa12, pn12, pc12, ra12, rn12, rc12, rfl⟩ := hr.shp
  replace hL := (hL.keep k9).cons hr 31
  replace kk := (kk.trans k9).alloc (.cells #[.int .i64 tv.items, .slice pa12 pn12 pc12, .slice ra12 rn12 rc12] 31)
  clear hr
  clear hA k9
  replace b11 := b11.keep ((Chg.refl No w9).alloc (.cells #[.int .i64 tv.items, .slice pa12 pn12 pc12, .slice ra12 rn12 rc12] 31))
  obtain ⟨e0, e1, e2, r10⟩ := hL.at (b := b10) (t := x) (pa := pa10) (pn := pn10) (pc := pc10) (ra := ra10) (rn := rn10) (rc := rc10) (by simp)
  obtain ⟨f0, f1, f2, _⟩ := id b11
  go_wp2_with fail
  generalize w9.alloc (.cells #[.int .i64 tv.items, .slice pa12 pn12 pc12, .slice ra12 rn12 rc12] 31) = W9 at hL kk r10 b11 e0 e1 e2 f0 f1 f2 ⊢
  obtain ⟨b12, hb12⟩ : ∃ y, w9.heap.size = y := ⟨_, rfl⟩
  rw [hb12] at hL ⊢
  clear hb12
  refine (q12.out _ W9 r10).mono ?_
  rintro e w10 ⟨v0, _, rfl, rfl, hA, k10⟩
  have hr := hA.rtn htv
  clear e0 e1 e2 f0 f1 f2 r10 b11
  obtain ⟨pa14, pn14, pc14, ra14, rn14, rc14, rfl⟩ := hr.shp
  replace hL := (hL.keep k10).cons hr 31
  replace kk := (kk.trans k10).alloc (.cells #[.int .i64 tv.items, .slice pa14 pn14 pc14, .slice ra14 rn14 rc14] 31)
  clear hr
  clear hA k10 q11 q12 q1 q2
  obtain ⟨W10, hW10⟩ : ∃ W10, w10.alloc (.cells #[.int .i64 tv.items, .slice pa14 pn14 pc14, .slice ra14 rn14 rc14] 31) = W10 := ⟨_, rfl⟩
  obtain ⟨b14, hb14⟩ : ∃ y, w10.heap.size = y := ⟨_, rfl⟩
  rw [hb14, hW10] at hL
  rw [hW10] at kk
  obtain ⟨e0, e1, e2, r4⟩ := hL.at (b := b4) (t := t4) (pa := pa4) (pn := pn4) (pc := pc4) (ra := ra4) (rn := rn4) (rc := rc4) (by simp)
  obtain ⟨f0, f1, f2, r6⟩ := hL.at (b := b6) (t := t4) (pa := pa6) (pn := pn6) (pc := pc6) (ra := ra6) (rn := rn6) (rc := rc6) (by simp)
  cases ok12 with
  | false =>
   go_wp2_with fail
   refine (vTour_same _ _ t4 _ r4 r6).mono ?_
   rintro e w11 ⟨_, rfl, rfl, k11⟩
   replace hL := hL.keep k11
   replace kk := kk.trans k11
   clear k11
   clear e0 e1 e2 f0 f1 f2 r4 r6
   obtain ⟨e0, e1, e2, r8⟩ := hL.at (b := b8) (t := u) (pa := pa8) (pn := pn8) (pc := pc8) (ra := ra8) (rn := rn8) (rc := rc8) (by simp)
   go_wp2_with fail
   refine (q4.out _ _ r8).mono ?_
   rintro e w12 ⟨_, rfl, rfl, k12⟩
   replace hL := hL.keep k12
   replace kk := kk.trans k12
   clear k12
   clear e0 e1 e2 r8
   obtain ⟨e0, e1, e2, r12⟩ := hL.at (b := b12) (t := tv) (pa := pa12) (pn := pn12) (pc := pc12) (ra := ra12) (rn := rn12) (rc := rc12) (by simp)
   obtain ⟨f0, f1, f2, r14⟩ := hL.at (b := b14) (t := tv) (pa := pa14) (pn := pn14) (pc := pc14) (ra := ra14) (rn := rn14) (rc := rc14) (by simp)
   go_wp2_with fail
   refine (vTour_same _ _ tv _ r12 r14).mono ?_
   rintro e w13 ⟨_, rfl, rfl, k13⟩
   replace hL := hL.keep k13
   replace kk := kk.trans k13
   clear k13
   clear e0 e1 e2 f0 f1 f2 r12 r14
   -- region 13
   obtain ⟨e0, e1, e2, r8⟩ := hL.at (b := b8) (t := u) (pa := pa8) (pn := pn8) (pc := pc8) (ra := ra8) (rn := rn8) (rc := rc8) (by simp)
   go_wp2_with fail
   refine (q5.out _ _ r8 (HLE.out _ kk).lay).mono ?_
   rintro e w20 ⟨rfl, k20⟩
   replace hL := hL.keep k20
   replace kk := kk.trans k20
   clear k20
   clear e0 e1 e2 r8
   obtain ⟨e0, e1, e2, r8⟩ := hL.at (b := b8) (t := u) (pa := pa8) (pn := pn8) (pc := pc8) (ra := ra8) (rn := rn8) (rc := rc8) (by simp)
   go_wp2_with fail
   refine (q6.out _ _ r8).mono ?_
   rintro e w21 ⟨rfl, k21⟩
   replace hL := hL.keep k21
   replace kk := kk.trans k21
   clear k21
   clear e0 e1 e2 r8
   go_wp2_with fail
   refine (q8.out _ (HLE.out _ kk)).mono ?_
   rintro e w22 ⟨v0, _, rfl, rfl, hA, k22⟩
   have hr := hA.rtn ht20
   obtain ⟨pa20, pn20, pc20, ra20, rn20, rc20, rfl⟩ := hr.shp
   replace hL := (hL.keep k22).cons hr 31
   replace kk := (kk.trans k22).alloc (.cells #[.int .i64 t20.items, .slice pa20 pn20 pc20, .slice ra20 rn20 rc20] 31)
   clear hr
   clear hA k22
   go_wp2_with fail
   generalize w22.alloc (.cells #[.int .i64 t20.items, .slice pa20 pn20 pc20, .slice ra20 rn20 rc20] 31) = W22 at hL kk ⊢
   obtain ⟨b20, hBN⟩ : ∃ b20, w22.heap.size = b20 := ⟨_, rfl⟩
   rw [hBN] at hL ⊢
   clear hBN
   refine (vCut_any _ N 3 W22 (HC.out _ kk) hN (by omega)).mono ?_
   rintro e w23 ⟨c3, n3, rfl, hc3, hn3, k23⟩
   obtain ⟨ca3, cq3, rfl⟩ := hc3.shape
   replace hL := hL.keep k23
   replace kk := kk.trans k23
   clear k23
   go_wp2_with fail
   refine (DrawParseTournament_any _ n3 w23 hc3 hn3).mono ?_
   rintro e w24 ⟨l, rfl, hll, k24⟩
   replace hL := hL.keep k24
   replace kk := kk.trans k24
   clear k24
   clear hc3
   have q9 := Lib.hid (fun W (h : LayE W) => implParse_any l W (by omega) h)
   have q10 := Lib.hid (fun W => specParse_any l W (by omega))
   have ht23 := parT_ps l
   obtain ⟨t23, ht23'⟩ : ∃ x, (parT l).getD zeroT = x := ⟨_, rfl⟩
   obtain ⟨ok23, hok23⟩ : ∃ x, (parT l).isSome = x := ⟨_, rfl⟩
   rw [ht23'] at ht23
   rw [ht23', hok23] at q9 q10
   clear ht23' hok23
   go_wp2_with fail
   refine (q9.out _ (HLE.out _ kk)).mono ?_
   rintro e w25 ⟨v0, _, rfl, rfl, hA, k25⟩
   have hr := hA.rtn ht23
   obtain ⟨pa23, pn23, pc23, ra23, rn23, rc23, rfl⟩ := hr.shp
   replace hL := (hL.keep k25).cons hr 31
   replace kk := (kk.trans k25).alloc (.cells #[.int .i64 t23.items, .slice pa23 pn23 pc23, .slice ra23 rn23 rc23] 31)
   clear hr
   clear hA k25
   go_wp2_with fail
   generalize w25.alloc (.cells #[.int .i64 t23.items, .slice pa23 pn23 pc23, .slice ra23 rn23 rc23] 31) = W25 at hL kk ⊢
   obtain ⟨b23, hBN⟩ : ∃ b23, w25.heap.size = b23 := ⟨_, rfl⟩
   rw [hBN] at hL ⊢
   clear hBN
   refine (q10.out W25).mono ?_
   rintro e w26 ⟨v0, _, rfl, rfl, hA, k26⟩
   have hr := hA.rtn ht23
   obtain ⟨pa25, pn25, pc25, ra25, rn25, rc25, rfl⟩ := hr.shp
   replace hL := (hL.keep k26).cons hr 31
   replace kk := (kk.trans k26).alloc (.cells #[.int .i64 t23.items, .slice pa25 pn25 pc25, .slice ra25 rn25 rc25] 31)
   clear hr
   clear hA k26
   obtain ⟨e0, e1, e2, r23⟩ := hL.at (b := b23) (t := t23) (pa := pa23) (pn := pn23) (pc := pc23) (ra := ra23) (rn := rn23) (rc := rc23) (by simp)
   obtain ⟨f0, f1, f2, r25⟩ := hL.at (b := w26.heap.size) (t := t23) (pa := pa25) (pn := pn25) (pc := pc25) (ra := ra25) (rn := rn25) (rc := rc25) (by simp)
   go_wp2_with fail
   refine (vTour_same _ _ t23 _ r23 r25).mono ?_
   rintro e w27 ⟨_, rfl, rfl, k27⟩
   replace hL := hL.keep k27
   replace kk := kk.trans k27
   clear k27
   clear e0 e1 e2 f0 f1 f2 r23 r25
   cases is with
   | false =>
    go_wp2_with fail
    go_ret
    exact ⟨rfl, kk⟩
   | true =>
    obtain ⟨h20, hok20⟩ := HT20.out (by first | rfl | trivial)
    subst hok20
    obtain ⟨e0, e1, e2, r8⟩ := hL.at (b := b8) (t := u) (pa := pa8) (pn := pn8) (pc := pc8) (ra := ra8) (rn := rn8) (rc := rc8) (by simp)
    obtain ⟨f0, f1, f2, r20⟩ := hL.at (b := b20) (t := t20) (pa := pa20) (pn := pn20) (pc := pc20) (ra := ra20) (rn := rn20) (rc := rc20) (by simp)
    have r20 := Lib.hid r20
    have H20 := Lib.hid h20
    clear h20
    go_wp2_with fail
    have r21 := r20.out
    rw [H20.out] at r21 ⊢
    refine (vTour_same _ _ u _ r21 r8).mono ?_
    rintro e w28 ⟨_, rfl, rfl, k28⟩
    go_wp2_with fail
    go_ret
    exact ⟨rfl, kk.trans k28⟩
  | true =>
   go_wp2_with fail
   refine (vTour_same _ _ t4 _ r4 r6).mono ?_
   rintro e w11 ⟨_, rfl, rfl, k11⟩
   replace hL := hL.keep k11
   replace kk := kk.trans k11
   clear k11
   clear e0 e1 e2 f0 f1 f2 r4 r6
   obtain ⟨e0, e1, e2, r8⟩ := hL.at (b := b8) (t := u) (pa := pa8) (pn := pn8) (pc := pc8) (ra := ra8) (rn := rn8) (rc := rc8) (by simp)
   go_wp2_with fail
   refine (q4.out _ _ r8).mono ?_
   rintro e w12 ⟨_, rfl, rfl, k12⟩
   replace hL := hL.keep k12
   replace kk := kk.trans k12
   clear k12
   clear e0 e1 e2 r8
   obtain ⟨e0, e1, e2, r12⟩ := hL.at (b := b12) (t := tv) (pa := pa12) (pn := pn12) (pc := pc12) (ra := ra12) (rn := rn12) (rc := rc12) (by simp)
   obtain ⟨f0, f1, f2, r14⟩ := hL.at (b := b14) (t := tv) (pa := pa14) (pn := pn14) (pc := pc14) (ra := ra14) (rn := rn14) (rc := rc14) (by simp)
   go_wp2_with fail
   refine (vTour_same _ _ tv _ r12 r14).mono ?_
   rintro e w13 ⟨_, rfl, rfl, k13⟩
   replace hL := hL.keep k13
   replace kk := kk.trans k13
   clear k13
   clear e0 e1 e2 f0 f1 f2 r12 r14
   obtain ⟨e0, e1, e2, r12⟩ := hL.at (b := b12) (t := tv) (pa := pa12) (pn := pn12) (pc := pc12) (ra := ra12) (rn := rn12) (rc := rc12) (by simp)
   go_wp2_with fail
   refine (IsTournament_any _ tv _ r12).mono ?_
   rintro e w14 ⟨_, rfl, rfl, k14⟩
   rw [HOK.out (by first | rfl | trivial)]
   replace hL := hL.keep k14
   replace kk := kk.trans k14
   clear k14
   clear e0 e1 e2 r12
   -- region 13
   obtain ⟨e0, e1, e2, r8⟩ := hL.at (b := b8) (t := u) (pa := pa8) (pn := pn8) (pc := pc8) (ra := ra8) (rn := rn8) (rc := rc8) (by simp)
   go_wp2_with fail
   refine (q5.out _ _ r8 (HLE.out _ kk).lay).mono ?_
   rintro e w20 ⟨rfl, k20⟩
   replace hL := hL.keep k20
   replace kk := kk.trans k20
   clear k20
   clear e0 e1 e2 r8
   obtain ⟨e0, e1, e2, r8⟩ := hL.at (b := b8) (t := u) (pa := pa8) (pn := pn8) (pc := pc8) (ra := ra8) (rn := rn8) (rc := rc8) (by simp)
   go_wp2_with fail
   refine (q6.out _ _ r8).mono ?_
   rintro e w21 ⟨rfl, k21⟩
   replace hL := hL.keep k21
   replace kk := kk.trans k21
   clear k21
   clear e0 e1 e2 r8
   go_wp2_with fail
   refine (q8.out _ (HLE.out _ kk)).mono ?_
   rintro e w22 ⟨v0, _, rfl, rfl, hA, k22⟩
   have hr := hA.rtn ht20
   obtain ⟨pa20, pn20, pc20, ra20, rn20, rc20, rfl⟩ := hr.shp
   replace hL := (hL.keep k22).cons hr 31
   replace kk := (kk.trans k22).alloc (.cells #[.int .i64 t20.items, .slice pa20 pn20 pc20, .slice ra20 rn20 rc20] 31)
   clear hr
   clear hA k22
   go_wp2_with fail
   generalize w22.alloc (.cells #[.int .i64 t20.items, .slice pa20 pn20 pc20, .slice ra20 rn20 rc20] 31) = W22 at hL kk ⊢
   obtain ⟨b20, hBN⟩ : ∃ b20, w22.heap.size = b20 := ⟨_, rfl⟩
   rw [hBN] at hL ⊢
   clear hBN
   refine (vCut_any _ N 3 W22 (HC.out _ kk) hN (by omega)).mono ?_
   rintro e w23 ⟨c3, n3, rfl, hc3, hn3, k23⟩
   obtain ⟨ca3, cq3, rfl⟩ := hc3.shape
   replace hL := hL.keep k23
   replace kk := kk.trans k23
   clear k23
   go_wp2_with fail
   refine (DrawParseTournament_any _ n3 w23 hc3 hn3).mono ?_
   rintro e w24 ⟨l, rfl, hll, k24⟩
   replace hL := hL.keep k24
   replace kk := kk.trans k24
   clear k24
   clear hc3
   have q9 := Lib.hid (fun W (h : LayE W) => implParse_any l W (by omega) h)
   have q10 := Lib.hid (fun W => specParse_any l W (by omega))
   have ht23 := parT_ps l
   obtain ⟨t23, ht23'⟩ : ∃ x, (parT l).getD zeroT = x := ⟨_, rfl⟩
   obtain ⟨ok23, hok23⟩ : ∃ x, (parT l).isSome = x := ⟨_, rfl⟩
   rw [ht23'] at ht23
   rw [ht23', hok23] at q9 q10
   clear ht23' hok23
   go_wp2_with fail
   refine (q9.out _ (HLE.out _ kk)).mono ?_
   rintro e w25 ⟨v0, _, rfl, rfl, hA, k25⟩
   have hr := hA.rtn ht23
   obtain ⟨pa23, pn23, pc23, ra23, rn23, rc23, rfl⟩ := hr.shp
   replace hL := (hL.keep k25).cons hr 31
   replace kk := (kk.trans k25).alloc (.cells #[.int .i64 t23.items, .slice pa23 pn23 pc23, .slice ra23 rn23 rc23] 31)
   clear hr
   clear hA k25
   go_wp2_with fail
   generalize w25.alloc (.cells #[.int .i64 t23.items, .slice pa23 pn23 pc23, .slice ra23 rn23 rc23] 31) = W25 at hL kk ⊢
   obtain ⟨b23, hBN⟩ : ∃ b23, w25.heap.size = b23 := ⟨_, rfl⟩
   rw [hBN] at hL ⊢
   clear hBN
   refine (q10.out W25).mono ?_
   rintro e w26 ⟨v0, _, rfl, rfl, hA, k26⟩
   have hr := hA.rtn ht23
   obtain ⟨pa25, pn25, pc25, ra25, rn25, rc25, rfl⟩ := hr.shp
   replace hL := (hL.keep k26).cons hr 31
   replace kk := (kk.trans k26).alloc (.cells #[.int .i64 t23.items, .slice pa25 pn25 pc25, .slice ra25 rn25 rc25] 31)
   clear hr
   clear hA k26
   obtain ⟨e0, e1, e2, r23⟩ := hL.at (b := b23) (t := t23) (pa := pa23) (pn := pn23) (pc := pc23) (ra := ra23) (rn := rn23) (rc := rc23) (by simp)
   obtain ⟨f0, f1, f2, r25⟩ := hL.at (b := w26.heap.size) (t := t23) (pa := pa25) (pn := pn25) (pc := pc25) (ra := ra25) (rn := rn25) (rc := rc25) (by simp)
   go_wp2_with fail
   refine (vTour_same _ _ t23 _ r23 r25).mono ?_
   rintro e w27 ⟨_, rfl, rfl, k27⟩
   replace hL := hL.keep k27
   replace kk := kk.trans k27
   clear k27
   clear e0 e1 e2 f0 f1 f2 r23 r25
   cases is with
   | false =>
    go_wp2_with fail
    go_ret
    exact ⟨rfl, kk⟩
   | true =>
    obtain ⟨h20, hok20⟩ := HT20.out (by first | rfl | trivial)
    subst hok20
    obtain ⟨e0, e1, e2, r8⟩ := hL.at (b := b8) (t := u) (pa := pa8) (pn := pn8) (pc := pc8) (ra := ra8) (rn := rn8) (rc := rc8) (by simp)
    obtain ⟨f0, f1, f2, r20⟩ := hL.at (b := b20) (t := t20) (pa := pa20) (pn := pn20) (pc := pc20) (ra := ra20) (rn := rn20) (rc := rc20) (by simp)
    have r20 := Lib.hid r20
    have H20 := Lib.hid h20
    clear h20
    go_wp2_with fail
    have r21 := r20.out
    rw [H20.out] at r21 ⊢
    refine (vTour_same _ _ u _ r21 r8).mono ?_
    rintro e w28 ⟨_, rfl, rfl, k28⟩
    go_wp2_with fail
    go_ret
    exact ⟨rfl, kk.trans k28⟩
end Go.Proofs.YtdgcohoneijleaaGreatDoor
