import Derived.Test.YtdgcohoneijleaaGreatDoorPkX19
set_option maxRecDepth 100000
namespace Go.Proofs.YtdgcohoneijleaaGreatDoor
open Go.RowKit
def stV (k a b : Int) : Value := .agg #[.int .i64 k, .int .i64 a, .int .i64 b]
set_option maxHeartbeats 4000000 in
theorem l12Plain_any (v : Value) (t : To) (k a b : Int) (w : World) (h : RT No w v t) (ht : tourB t = true) :
  Calls Tryz.prog 112 #[v, stV k a b] w (Ret fun r w' => r = .bool (okPlain t k a b) ∧ Chg No w w') := by
 obtain ⟨hl1, hl2, hl3, hl4⟩ := tour_len ht
 have h0 := h
 obtain ⟨it, ps, rq⟩ := t
 obtain ⟨pv, qv, rfl, hps, hrq⟩ := h
 simp only at hps hrq hl1 hl2 hl3 hl4
 obtain ⟨qa, qc, rfl, _⟩ := id hrq
 obtain ⟨pa, cap, rfl, hcap, hmax, hlen, pf, mf, hl, hcl⟩ := id hps
 clear hl hcl ht hps hrq
 obtain ⟨n, hn⟩ : ∃ n, rq.length = n := ⟨_, rfl⟩
 have hW0 := boxes32 (w := w) (t := 31) (t' := 47) (x0 := .int .i64 it) (x1 := .slice pa ps.length cap) (x2 := .slice qa n qc) (y0 := .int .i64 k) (y1 := .int .i64 a) (y2 := .int .i64 b)
  (R := fun W => Chg No w W ∧ Box3 W w.heap.size (.int .i64 it) (.slice pa ps.length cap) (.slice qa n qc) ∧ Box3 W (w.heap.size + 1) (.int .i64 k) (.int .i64 a) (.int .i64 b)) (fun W k b0 b1 => ⟨k, b0, b1⟩)
 obtain ⟨kk, b0, b1⟩ := hW0
 have hO : okPlain ⟨it, ps, rq⟩ k a b = ((b == 0) && (
  if k = 2 then inB a 0 (it - 1) && decide (n < 60)
  else if k = 3 then hasP ⟨it, ps, rq⟩ a
  else if k = 4 then (a == 0) && (decide (0 < n) && decide (latT ps ps.length < (n : Int)))
  else if k = 5 then inB a 1 n && decide ((n : Int) + a ≤ 60)
  else (k == 7) && (a == 0))) := by rw [← hn]; rfl
 obtain ⟨ok, hok⟩ : ∃ ok, okPlain ⟨it, ps, rq⟩ k a b = ok := ⟨_, rfl⟩
 rw [hok] at hO ⊢
 have HN := Lib.hid hn
 obtain ⟨c0, c1, c2, _⟩ := id b0
 obtain ⟨d0, d1, d2, _⟩ := id b1
 have hn0 : (0 : Int) ≤ (n : Int) := Int.natCast_nonneg _
 rw [hn] at h0 hl2 ⊢
 have h0k := h0.keep kk
 clear hn hok
 unfold stV
 by_cases hb : b = 0
 ·subst hb
  simp only [beq_self_eq_true, Bool.true_and] at hO
  by_cases e2 : k = 2
  ·subst e2
   rw [if_pos rfl] at hO
   have hw1 : IntKind.i64.wrap (it - 1) = it - 1 := IntWalk.i64_in _ (by omega)
   have HO := Lib.hid hO
   clear hO
   go_enter Tryz.func112, Tryz.ntmps112
   go_wp2_with fail
   refine (l1In_any _ _ _ _).mono ?_
   rintro e w1 ⟨rfl, rfl⟩
   cases hi : inB a 0 (it - 1)
   ·have HI := Lib.hid hi
    clear hi
    go_wp2_with fail
    go_ret
    exact ⟨_, rfl, by rw [HO.out, HI.out]; rfl, kk⟩
   ·have HI := Lib.hid hi
    clear hi
    go_wp2_with fail
    go_ret
    exact ⟨_, rfl, by rw [HO.out, HI.out, Bool.true_and]; simp; omega, kk⟩
  ·rw [if_neg e2] at hO
   by_cases e3 : k = 3
   ·subst e3
    rw [if_pos rfl] at hO
    have HO := Lib.hid hO
    clear hO
    go_enter Tryz.func112, Tryz.ntmps112
    go_wp2_with fail
    refine (l12Has_any _ _ a _ h0k).mono ?_
    rintro e w1 ⟨_, rfl, rfl, k1⟩
    go_wp2_with fail
    go_ret
    exact ⟨_, rfl, by rw [HO.out]; rfl, kk.keep k1⟩
   ·rw [if_neg e3] at hO
    by_cases e4 : k = 4
    ·subst e4
     rw [if_pos rfl] at hO
     by_cases ha : a = 0
     ·subst ha
      simp only [beq_self_eq_true, Bool.true_and] at hO
      by_cases hp : 0 < n
      ·have hp' : (0 : Int) < (n : Int) := by omega
       rw [decide_eq_true hp, Bool.true_and] at hO
       have HO := Lib.hid hO
       clear hO hp
       go_enter Tryz.func112, Tryz.ntmps112
       go_wp2_with fail
       refine (l12Latest_any _ _ _ h0k).mono ?_
       rintro e w1 ⟨_, rfl, rfl, k1⟩
       go_wp2_with fail
       go_ret
       exact ⟨_, rfl, by rw [HO.out]; rfl, kk.keep k1⟩
      ·have hp' : ¬ (0 : Int) < (n : Int) := by omega
       rw [decide_eq_false hp, Bool.false_and] at hO
       have HO := Lib.hid hO
       clear hO hp
       go_enter Tryz.func112, Tryz.ntmps112
       go_wp2_with fail
       go_ret
       exact ⟨_, rfl, by rw [HO.out]; rfl, kk⟩
     ·have ha' : (a == 0) = false := by simpa using ha
      rw [ha', Bool.false_and] at hO
      have HO := Lib.hid hO
      clear hO
      go_enter Tryz.func112, Tryz.ntmps112
      go_wp2_with fail
      go_ret
      exact ⟨_, rfl, by rw [HO.out]; rfl, kk⟩
    ·rw [if_neg e4] at hO
     by_cases e5 : k = 5
     ·subst e5
      rw [if_pos rfl] at hO
      have HO := Lib.hid hO
      clear hO
      cases hi : inB a 1 n
      ·have HI := Lib.hid hi
       clear hi
       go_enter Tryz.func112, Tryz.ntmps112
       go_wp2_with fail
       refine (l1In_any _ _ _ _).mono ?_
       rintro e w1 ⟨rfl, rfl⟩
       rw [HI.out]
       go_wp2_with fail
       go_ret
       exact ⟨_, rfl, by rw [HO.out, HI.out]; rfl, kk⟩
      ·have hin := inB_iff.1 hi
       have HI := Lib.hid hi
       have hw1 : IntKind.i64.wrap ((n : Int) + a) = (n : Int) + a := IntWalk.i64_in _ (by omega)
       clear hi hin
       go_enter Tryz.func112, Tryz.ntmps112
       go_wp2_with fail
       refine (l1In_any _ _ _ _).mono ?_
       rintro e w1 ⟨rfl, rfl⟩
       rw [HI.out]
       go_wp2_with fail
       go_ret
       exact ⟨_, rfl, by rw [HO.out, HI.out, Bool.true_and]; rfl, kk⟩
     ·rw [if_neg e5] at hO
      by_cases e7 : k = 7
      ·subst e7
       have HO := Lib.hid hO
       clear hO
       go_enter Tryz.func112, Tryz.ntmps112
       go_wp2_with fail
       go_ret
       exact ⟨_, rfl, by rw [HO.out]; rfl, kk⟩
      ·have e7' : (k == 7) = false := by simpa using e7
       rw [e7', Bool.false_and] at hO
       have HO := Lib.hid hO
       clear hO e7'
       go_enter Tryz.func112, Tryz.ntmps112
       go_wp2_with fail
       go_ret
       exact ⟨_, rfl, by rw [HO.out]; rfl, kk⟩
 ·have hb' : (b == 0) = false := by simpa using hb
  rw [hb', Bool.false_and] at hO
  have HO := Lib.hid hO
  clear hO
  go_enter Tryz.func112, Tryz.ntmps112
  go_wp2_with fail
  go_ret
  exact ⟨_, rfl, by rw [HO.out]; rfl, kk⟩
end Go.Proofs.YtdgcohoneijleaaGreatDoor
namespace Go.Proofs.YtdgcohoneijleaaGreatDoor
open Go.RowKit
set_option maxHeartbeats 4000000 in
theorem l12May1_any (v : Value) (t : To) (a b : Int) (w : World) (h : RT No w v t) (ht : tourB t = true) :
  Calls Tryz.prog 63 #[v, stV 1 a b] w (Ret fun r w' => r = .bool (okStep t 1 a b) ∧ Chg No w w') := by
 obtain ⟨k, hk⟩ : ∃ k : Int, k = 1 := ⟨_, rfl⟩
 rw [← hk]
 obtain ⟨hl1, hl2, hl3, hl4⟩ := tour_len ht
 have h0 := h
 obtain ⟨it, ps, rq⟩ := t
 obtain ⟨pv, qv, rfl, hps, hrq⟩ := h
 simp only at hps hrq hl1 hl2 hl3 hl4
 obtain ⟨qa, qc, rfl, _⟩ := id hrq
 obtain ⟨pa, cap, rfl, hcap, hmax, hlen, pf, mf, hl, hcl⟩ := id hps
 obtain ⟨n, hn⟩ : ∃ n, rq.length = n := ⟨_, rfl⟩
 have hW0 := boxes32 (w := w) (t := 31) (t' := 47) (x0 := .int .i64 it) (x1 := .slice pa ps.length cap) (x2 := .slice qa n qc) (y0 := .int .i64 k) (y1 := .int .i64 a) (y2 := .int .i64 b)
  (R := fun W => Chg No w W ∧ Box3 W w.heap.size (.int .i64 it) (.slice pa ps.length cap) (.slice qa n qc) ∧ Box3 W (w.heap.size + 1) (.int .i64 k) (.int .i64 a) (.int .i64 b)) (fun W k b0 b1 => ⟨k, b0, b1⟩)
 obtain ⟨kk, b0, b1⟩ := hW0
 have hn0 : (0 : Int) ≤ (n : Int) := Int.natCast_nonneg _
 rw [hn] at h0 hl2 ⊢
 have h0k := h0.keep kk
 have hO : okStep ⟨it, ps, rq⟩ k a b = (inB a 1 7 && (inB b 1 6 && decide (ps.length < 4))) := by rw [hk]; rfl
 subst hk
 have HO := Lib.hid hO
 obtain ⟨c0, c1, c2, _⟩ := id b0
 obtain ⟨d0, d1, d2, _⟩ := id b1
 clear hO hl hcl hps hrq ht
 unfold stV
 go_enter Tryz.func63, Tryz.ntmps63
 go_wp2_with fail
 refine (l4Sizes_any a b _).mono ?_
 rintro e w1 ⟨rfl, rfl⟩
 cases hi : (inB a 1 7 && inB b 1 6)
 ·have HI := Lib.hid hi
  clear hi
  go_wp2_with fail
  go_ret
  exact ⟨_, rfl, by rw [HO.out, ← Bool.and_assoc, HI.out]; rfl, kk⟩
 ·have HI := Lib.hid hi
  clear hi
  go_wp2_with fail
  go_ret
  exact ⟨_, rfl, by rw [HO.out, ← Bool.and_assoc, HI.out]; simp; omega, kk⟩
set_option maxHeartbeats 4000000 in
theorem l12May0_any (v : Value) (t : To) (k a b : Int) (w : World) (h : RT No w v t) (ht : tourB t = true) (e1 : ¬ k = 1) (e6 : ¬ k = 6) :
  Calls Tryz.prog 63 #[v, stV k a b] w (Ret fun r w' => r = .bool (okStep t k a b) ∧ Chg No w w') := by
 have HT := Lib.hid ht
 obtain ⟨hl1, hl2, hl3, hl4⟩ := tour_len ht
 have h0 := h
 obtain ⟨it, ps, rq⟩ := t
 obtain ⟨pv, qv, rfl, hps, hrq⟩ := h
 simp only at hps hrq hl1 hl2 hl3 hl4
 obtain ⟨qa, qc, rfl, _⟩ := id hrq
 obtain ⟨pa, cap, rfl, hcap, hmax, hlen, pf, mf, hl, hcl⟩ := id hps
 obtain ⟨n, hn⟩ : ∃ n, rq.length = n := ⟨_, rfl⟩
 have hW0 := boxes32 (w := w) (t := 31) (t' := 47) (x0 := .int .i64 it) (x1 := .slice pa ps.length cap) (x2 := .slice qa n qc) (y0 := .int .i64 k) (y1 := .int .i64 a) (y2 := .int .i64 b)
  (R := fun W => Chg No w W ∧ Box3 W w.heap.size (.int .i64 it) (.slice pa ps.length cap) (.slice qa n qc) ∧ Box3 W (w.heap.size + 1) (.int .i64 k) (.int .i64 a) (.int .i64 b)) (fun W k b0 b1 => ⟨k, b0, b1⟩)
 obtain ⟨kk, b0, b1⟩ := hW0
 have hn0 : (0 : Int) ≤ (n : Int) := Int.natCast_nonneg _
 rw [hn] at h0 hl2 ⊢
 have h0k := h0.keep kk
 have hO : okStep ⟨it, ps, rq⟩ k a b = okPlain ⟨it, ps, rq⟩ k a b := by unfold okStep; rw [if_neg e1, if_neg e6]
 have HO := Lib.hid hO
 obtain ⟨c0, c1, c2, _⟩ := id b0
 obtain ⟨d0, d1, d2, _⟩ := id b1
 clear hO hl hcl hps hrq ht
 unfold stV
 go_enter Tryz.func63, Tryz.ntmps63
 go_wp2_with fail
 refine (l12Plain_any _ _ k a b _ h0k HT.out).mono ?_
 rintro e w1 ⟨_, rfl, rfl, k1⟩
 go_wp2_with fail
 go_ret
 exact ⟨_, rfl, by rw [HO.out]; rfl, kk.keep k1⟩
set_option maxHeartbeats 4000000 in
theorem l12May6_any (v : Value) (t : To) (a b : Int) (w : World) (h : RT No w v t) (ht : tourB t = true) :
  Calls Tryz.prog 63 #[v, stV 6 a b] w (Ret fun r w' => r = .bool (okStep t 6 a b) ∧ Chg No w w') := by
 obtain ⟨k, hk⟩ : ∃ k : Int, k = 6 := ⟨_, rfl⟩
 rw [← hk]
 obtain ⟨hl1, hl2, hl3, hl4⟩ := tour_len ht
 have h0 := h
 obtain ⟨it, ps, rq⟩ := t
 obtain ⟨pv, qv, rfl, hps, hrq⟩ := h
 simp only at hps hrq hl1 hl2 hl3 hl4
 obtain ⟨qa, qc, rfl, _⟩ := id hrq
 obtain ⟨pa, cap, rfl, hcap, hmax, hlen, pf, mf, hl, hcl⟩ := id hps
 obtain ⟨n, hn⟩ : ∃ n, rq.length = n := ⟨_, rfl⟩
 have hW0 := boxes32 (w := w) (t := 31) (t' := 47) (x0 := .int .i64 it) (x1 := .slice pa ps.length cap) (x2 := .slice qa n qc) (y0 := .int .i64 k) (y1 := .int .i64 a) (y2 := .int .i64 b)
  (R := fun W => Chg No w W ∧ Box3 W w.heap.size (.int .i64 it) (.slice pa ps.length cap) (.slice qa n qc) ∧ Box3 W (w.heap.size + 1) (.int .i64 k) (.int .i64 a) (.int .i64 b)) (fun W k b0 b1 => ⟨k, b0, b1⟩)
 obtain ⟨kk, b0, b1⟩ := hW0
 have hn0 : (0 : Int) ≤ (n : Int) := Int.natCast_nonneg _
 rw [hn] at h0 hl2 ⊢
 have h0k := h0.keep kk
 have hO : okStep ⟨it, ps, rq⟩ k a b = (hasP ⟨it, ps, rq⟩ a && (decide ((ps.getD a.toNat dPl).ca.size < it) && inB b 1 (60 - (n : Int)))) := by rw [hk, ← hn]; rfl
 subst hk
 cases hh : hasP ⟨it, ps, rq⟩ a
 ·rw [hh, Bool.false_and] at hO
  have HH := Lib.hid hh
  have HO := Lib.hid hO
  obtain ⟨C, hC1, hC2⟩ : ∃ C : World → Prop, (∀ W, C W → Box3 W w.heap.size (.int .i64 it) (.slice pa ps.length cap) (.slice qa n qc) ∧ Box3 W (w.heap.size + 1) (.int .i64 6) (.int .i64 a) (.int .i64 b) ∧ Chg No w W) ∧ (∀ W, Box3 W w.heap.size (.int .i64 it) (.slice pa ps.length cap) (.slice qa n qc) → Box3 W (w.heap.size + 1) (.int .i64 6) (.int .i64 a) (.int .i64 b) → Chg No w W → C W) := ⟨_, fun _ h => h, fun _ h h' h2 => ⟨h, h', h2⟩⟩
  have HK : Hid (∀ W W', C W → Chg No W W' → C W') := Lib.hid (fun W W' hW hk => hC2 W' ((hC1 W hW).1.keep hk) ((hC1 W hW).2.1.keep hk) ((hC1 W hW).2.2.keep hk))
  have HX := Lib.hid hC1
  have hC0 := hC2 _ (b0.keep (Chg.refl No _).drew) (b1.keep (Chg.refl No _).drew) kk.drew
  have HCELL : Hid (∀ W, C W → W.cell? ⟨w.heap.size, 0, none⟩ = some (.int .i64 it) ∧ W.cell? ⟨w.heap.size, 1, none⟩ = some (.slice pa ps.length cap) ∧ W.cell? ⟨w.heap.size, 2, none⟩ = some (.slice qa n qc) ∧ W.cell? ⟨w.heap.size + 1, 0, none⟩ = some (.int .i64 6) ∧ W.cell? ⟨w.heap.size + 1, 1, none⟩ = some (.int .i64 a) ∧ W.cell? ⟨w.heap.size + 1, 2, none⟩ = some (.int .i64 b) ∧ True) := Lib.hid (fun W hW => by
   obtain ⟨g1, g2, _⟩ := hC1 W hW
   exact ⟨g1.c0, g1.c1, g1.c2, g2.c0, g2.c1, g2.c2, trivial⟩)
  obtain ⟨c0, c1, c2, _⟩ := id b0
  obtain ⟨d0, d1, d2, _⟩ := id b1
  clear hO hl hcl hps hrq ht hh hC1 hC2 b0 b1
  unfold stV
  go_enter Tryz.func63, Tryz.ntmps63
  go_wp2_with fail
  refine wp_region_X C (by kernel_rfl) (by kernel_rfl) hC0 ?_
  clear hC0
  refine wpX_val (.agg #[.int .i64 it, .slice pa ps.length cap, .slice qa n qc]) rfl (by intro W hW; obtain ⟨c0, c1, c2, d0, d1, d2, p2⟩ := HCELL.out W hW; go_simp) ?_
  simp only [zD, zE, zF, zG]
  refine wpX_val (.pointer (some ⟨w.heap.size + 1, 1, none⟩)) rfl (by intro W hW; obtain ⟨c0, c1, c2, d0, d1, d2, p2⟩ := HCELL.out W hW; go_simp) ?_
  simp only [zD, zE, zF, zG]
  refine wpX_val (.int .i64 a) rfl (by intro W hW; obtain ⟨c0, c1, c2, d0, d1, d2, p2⟩ := HCELL.out W hW; go_simp) ?_
  simp only [zD, zE, zF, zG]
  refine wpX_call (.bool false) (f := 111) (args := #[.agg #[.int .i64 it, .slice pa ps.length cap, .slice qa n qc], .int .i64 a]) rfl (by intro W hW; obtain ⟨c0, c1, c2, d0, d1, d2, p2⟩ := HCELL.out W hW; go_simp) (fun W hW => (l12Has_any _ ⟨it, ps, rq⟩ a W (h0.keep (HX.out W hW).2.2)).mono (by rintro e w' ⟨_, rfl, rfl, hk⟩; exact ⟨by rw [HH.out], HK.out _ _ hW hk⟩)) ?_
  simp only [zD, zE, zF, zG]
  refine wpX_val (.bool false) rfl (by intro W hW; obtain ⟨c0, c1, c2, d0, d1, d2, p2⟩ := HCELL.out W hW; go_simp) ?_
  simp only [zD, zE, zF, zG]
  repeat (first | (refine wpX_skip rfl ?_; simp only [zD, zE, zF, zG]) | (refine wpX_val (.bool false) rfl (by intro W hW; go_simp) ?_; simp only [zD, zE, zF, zG]))
  refine wpX_nil (fun W hW => ?_)
  have kW := (HX.out W hW).2.2
  go_wp2_with fail
  go_ret
  exact ⟨_, rfl, by rw [HO.out]; rfl, kW⟩
 ·rw [hh, Bool.true_and] at hO
  have hik : 0 ≤ a ∧ a ≤ (ps.length : Int) - 1 := inB_iff.1 hh
  obtain ⟨x, rfl⟩ : ∃ x : Nat, a = (x : Int) := ⟨a.toNat, by omega⟩
  have hx : x < ps.length := by omega
  obtain ⟨bb, off, rfl, _, hbb, hcell⟩ := hcl (by intro e; simp [e] at hx)
  have d2p := (hcell x hx).c2
  rw [show (x : Int).toNat = x by omega] at hO
  obtain ⟨sz, hsz⟩ : ∃ sz, (ps.getD x dPl).ca.size = sz := ⟨_, rfl⟩
  rw [hsz] at hO d2p
  have hx0 : (0 : Int) ≤ (x : Int) := Int.natCast_nonneg _
  have hx1 : (x : Int) < (ps.length : Int) := by omega
  have hw1 : IntKind.i64.wrap (60 - (n : Int)) = 60 - (n : Int) := IntWalk.i64_in _ (by omega)
  obtain ⟨a, ha⟩ : ∃ a : Int, a = (x : Int) := ⟨_, rfl⟩
  have HA := Lib.hid ha
  have HH := Lib.hid hh
  have HO := Lib.hid hO
  have HBB := Lib.hid hbb
  have HP2 := Lib.hid d2p
  obtain ⟨C, hC1, hC2⟩ : ∃ C : World → Prop, (∀ W, C W → Box3 W w.heap.size (.int .i64 it) (.slice (some ⟨bb, off, none⟩) ps.length cap) (.slice qa n qc) ∧ Box3 W (w.heap.size + 1) (.int .i64 6) (.int .i64 (x : Int)) (.int .i64 b) ∧ Chg No w W) ∧ (∀ W, Box3 W w.heap.size (.int .i64 it) (.slice (some ⟨bb, off, none⟩) ps.length cap) (.slice qa n qc) → Box3 W (w.heap.size + 1) (.int .i64 6) (.int .i64 (x : Int)) (.int .i64 b) → Chg No w W → C W) := ⟨_, fun _ h => h, fun _ h h' h2 => ⟨h, h', h2⟩⟩
  have HK : Hid (∀ W W', C W → Chg No W W' → C W') := Lib.hid (fun W W' hW hk => hC2 W' ((hC1 W hW).1.keep hk) ((hC1 W hW).2.1.keep hk) ((hC1 W hW).2.2.keep hk))
  have HX := Lib.hid hC1
  have hC0 := hC2 _ (b0.keep (Chg.refl No _).drew) (b1.keep (Chg.refl No _).drew) kk.drew
  have HCELL : Hid (∀ W, C W → W.cell? ⟨w.heap.size, 0, none⟩ = some (.int .i64 it) ∧ W.cell? ⟨w.heap.size, 1, none⟩ = some (.slice (some ⟨bb, off, none⟩) ps.length cap) ∧ W.cell? ⟨w.heap.size, 2, none⟩ = some (.slice qa n qc) ∧ W.cell? ⟨w.heap.size + 1, 0, none⟩ = some (.int .i64 6) ∧ W.cell? ⟨w.heap.size + 1, 1, none⟩ = some (.int .i64 (x : Int)) ∧ W.cell? ⟨w.heap.size + 1, 2, none⟩ = some (.int .i64 b) ∧ W.cell? ⟨bb, off + x * 7 + 2, none⟩ = some (.int .i64 sz)) := Lib.hid (fun W hW => by
   obtain ⟨g1, g2, g3⟩ := hC1 W hW
   exact ⟨g1.c0, g1.c1, g1.c2, g2.c0, g2.c1, g2.c2, (g3.cellD bb _ HBB.out (fun e => e)).trans HP2.out⟩)
  obtain ⟨c0, c1, c2, _⟩ := id b0
  obtain ⟨d0, d1, d2, _⟩ := id b1
  clear hO hl hcl hps hrq ht hh hC1 hC2 b0 b1 hcell d2p hik ha hsz hbb
  unfold stV
  go_enter Tryz.func63, Tryz.ntmps63
  go_wp2_with fail
  refine wp_region_X C (by kernel_rfl) (by kernel_rfl) hC0 ?_
  clear hC0
  refine wpX_val (.agg #[.int .i64 it, .slice (some ⟨bb, off, none⟩) ps.length cap, .slice qa n qc]) rfl (by intro W hW; obtain ⟨c0, c1, c2, d0, d1, d2, p2⟩ := HCELL.out W hW; go_simp) ?_
  simp only [zD, zE, zF, zG]
  refine wpX_val (.pointer (some ⟨w.heap.size + 1, 1, none⟩)) rfl (by intro W hW; obtain ⟨c0, c1, c2, d0, d1, d2, p2⟩ := HCELL.out W hW; go_simp) ?_
  simp only [zD, zE, zF, zG]
  refine wpX_val (.int .i64 (x : Int)) rfl (by intro W hW; obtain ⟨c0, c1, c2, d0, d1, d2, p2⟩ := HCELL.out W hW; go_simp) ?_
  simp only [zD, zE, zF, zG]
  refine wpX_call (.bool true) (f := 111) (args := #[.agg #[.int .i64 it, .slice (some ⟨bb, off, none⟩) ps.length cap, .slice qa n qc], .int .i64 (x : Int)]) rfl (by intro W hW; obtain ⟨c0, c1, c2, d0, d1, d2, p2⟩ := HCELL.out W hW; go_simp) (fun W hW => (l12Has_any _ ⟨it, ps, rq⟩ (x : Int) W (h0.keep (HX.out W hW).2.2)).mono (by rintro e w' ⟨_, rfl, rfl, hk⟩; exact ⟨by rw [HH.out], HK.out _ _ hW hk⟩)) ?_
  simp only [zD, zE, zF, zG]
  refine wpX_val (.bool true) rfl (by intro W hW; obtain ⟨c0, c1, c2, d0, d1, d2, p2⟩ := HCELL.out W hW; go_simp) ?_
  simp only [zD, zE, zF, zG]
  refine wpX_val (.pointer (some ⟨w.heap.size, 1, none⟩)) rfl (by intro W hW; obtain ⟨c0, c1, c2, d0, d1, d2, p2⟩ := HCELL.out W hW; go_simp) ?_
  simp only [zD, zE, zF, zG]
  refine wpX_val (.slice (some ⟨bb, off, none⟩) ps.length cap) rfl (by intro W hW; obtain ⟨c0, c1, c2, d0, d1, d2, p2⟩ := HCELL.out W hW; go_simp) ?_
  simp only [zD, zE, zF, zG]
  refine wpX_val (.pointer (some ⟨w.heap.size + 1, 1, none⟩)) rfl (by intro W hW; obtain ⟨c0, c1, c2, d0, d1, d2, p2⟩ := HCELL.out W hW; go_simp) ?_
  simp only [zD, zE, zF, zG]
  refine wpX_val (.int .i64 (x : Int)) rfl (by intro W hW; obtain ⟨c0, c1, c2, d0, d1, d2, p2⟩ := HCELL.out W hW; go_simp) ?_
  simp only [zD, zE, zF, zG]
  refine wpX_val (.pointer (some ⟨bb, off + x * 7, none⟩)) rfl (by intro W hW; obtain ⟨c0, c1, c2, d0, d1, d2, p2⟩ := HCELL.out W hW; go_simp) ?_
  simp only [zD, zE, zF, zG]
  refine wpX_val (.pointer (some ⟨bb, off + x * 7 + 1, none⟩)) rfl (by intro W hW; obtain ⟨c0, c1, c2, d0, d1, d2, p2⟩ := HCELL.out W hW; go_simp) ?_
  simp only [zD, zE, zF, zG]
  refine wpX_val (.pointer (some ⟨bb, off + x * 7 + 2, none⟩)) rfl (by intro W hW; obtain ⟨c0, c1, c2, d0, d1, d2, p2⟩ := HCELL.out W hW; go_simp) ?_
  simp only [zD, zE, zF, zG]
  refine wpX_val (.int .i64 sz) rfl (by intro W hW; obtain ⟨c0, c1, c2, d0, d1, d2, p2⟩ := HCELL.out W hW; go_simp) ?_
  simp only [zD, zE, zF, zG]
  refine wpX_val (.pointer (some ⟨w.heap.size, 0, none⟩)) rfl (by intro W hW; obtain ⟨c0, c1, c2, d0, d1, d2, p2⟩ := HCELL.out W hW; go_simp) ?_
  simp only [zD, zE, zF, zG]
  refine wpX_val (.int .i64 it) rfl (by intro W hW; obtain ⟨c0, c1, c2, d0, d1, d2, p2⟩ := HCELL.out W hW; go_simp) ?_
  simp only [zD, zE, zF, zG]
  refine wpX_val (.bool (decide (sz < it))) rfl (by intro W hW; obtain ⟨c0, c1, c2, d0, d1, d2, p2⟩ := HCELL.out W hW; go_simp) ?_
  simp only [zD, zE, zF, zG]
  cases hlt : decide (sz < it)
  ·have HLT := Lib.hid hlt
   clear hlt
   repeat (first | (refine wpX_skip rfl ?_; simp only [zD, zE, zF, zG]) | (refine wpX_val (.bool false) rfl (by intro W hW; go_simp) ?_; simp only [zD, zE, zF, zG]))
   refine wpX_nil (fun W hW => ?_)
   have kW := (HX.out W hW).2.2
   go_wp2_with fail
   go_ret
   exact ⟨_, rfl, by rw [HO.out, HLT.out]; rfl, kW⟩
  ·have HLT := Lib.hid hlt
   clear hlt
   refine wpX_val (.bool true) rfl (by intro W hW; obtain ⟨c0, c1, c2, d0, d1, d2, p2⟩ := HCELL.out W hW; go_simp) ?_
   simp only [zD, zE, zF, zG]
   refine wpX_val (.bool true) rfl (by intro W hW; obtain ⟨c0, c1, c2, d0, d1, d2, p2⟩ := HCELL.out W hW; go_simp) ?_
   simp only [zD, zE, zF, zG]
   refine wpX_val (.pointer (some ⟨w.heap.size + 1, 2, none⟩)) rfl (by intro W hW; obtain ⟨c0, c1, c2, d0, d1, d2, p2⟩ := HCELL.out W hW; go_simp) ?_
   simp only [zD, zE, zF, zG]
   refine wpX_val (.int .i64 b) rfl (by intro W hW; obtain ⟨c0, c1, c2, d0, d1, d2, p2⟩ := HCELL.out W hW; go_simp) ?_
   simp only [zD, zE, zF, zG]
   refine wpX_val (.pointer (some ⟨w.heap.size, 2, none⟩)) rfl (by intro W hW; obtain ⟨c0, c1, c2, d0, d1, d2, p2⟩ := HCELL.out W hW; go_simp) ?_
   simp only [zD, zE, zF, zG]
   refine wpX_val (.slice qa n qc) rfl (by intro W hW; obtain ⟨c0, c1, c2, d0, d1, d2, p2⟩ := HCELL.out W hW; go_simp) ?_
   simp only [zD, zE, zF, zG]
   refine wpX_val (.int .i64 (n : Int)) rfl (by intro W hW; obtain ⟨c0, c1, c2, d0, d1, d2, p2⟩ := HCELL.out W hW; go_simp) ?_
   simp only [zD, zE, zF, zG]
   refine wpX_val (.int .i64 (60 - (n : Int))) rfl (by intro W hW; obtain ⟨c0, c1, c2, d0, d1, d2, p2⟩ := HCELL.out W hW; go_simp) ?_
   simp only [zD, zE, zF, zG]
   refine wpX_call (.bool (inB b 1 (60 - (n : Int)))) (f := 80) (args := #[.int .i64 b, .int .i64 1, .int .i64 (60 - (n : Int))]) rfl (by intro W hW; obtain ⟨c0, c1, c2, d0, d1, d2, p2⟩ := HCELL.out W hW; go_simp) (fun W hW => (l1In_any _ _ _ W).mono (by rintro e w' ⟨rfl, rfl⟩; exact ⟨rfl, hW⟩)) ?_
   simp only [zD, zE, zF, zG]
   refine wpX_val (.bool (inB b 1 (60 - (n : Int)))) rfl (by intro W hW; obtain ⟨c0, c1, c2, d0, d1, d2, p2⟩ := HCELL.out W hW; go_simp) ?_
   simp only [zD, zE, zF, zG]
   refine wpX_val (.bool (inB b 1 (60 - (n : Int)))) rfl (by intro W hW; obtain ⟨c0, c1, c2, d0, d1, d2, p2⟩ := HCELL.out W hW; go_simp) ?_
   simp only [zD, zE, zF, zG]
   refine wpX_nil (fun W hW => ?_)
   have kW := (HX.out W hW).2.2
   go_wp2_with fail
   go_ret
   exact ⟨_, rfl, by rw [HO.out, HLT.out, Bool.true_and]; rfl, kW⟩
theorem l12May_any (v : Value) (t : To) (k a b : Int) (w : World) (h : RT No w v t) (ht : tourB t = true) :
  Calls Tryz.prog 63 #[v, stV k a b] w (Ret fun r w' => r = .bool (okStep t k a b) ∧ Chg No w w') := by
 by_cases e1 : k = 1
 ·subst e1; exact l12May1_any v t a b w h ht
 by_cases e6 : k = 6
 ·subst e6; exact l12May6_any v t a b w h ht
 exact l12May0_any v t k a b w h ht e1 e6
end Go.Proofs.YtdgcohoneijleaaGreatDoor
namespace Go.Proofs.YtdgcohoneijleaaGreatDoor
open Go.RowKit
set_option maxHeartbeats 4000000 in
theorem l12Cruel_any (v : Value) (t : To) (i n : Nat) (w : World) (h : RT No w v t) (ht : tourB t = true) (hi : i < t.ps.length) (hn : t.reqs.length + n ≤ 60) :
  Calls Tryz.prog 116 #[v, .int .i64 (i : Int), .int .i64 (n : Int)] w (Ret fun r w' => OI w.heap.size w' r (t.reqs ++ cruelI (t.ps.getD i dPl).ca n) ∧ Chg No w w') := by
 have hok := tour_ok ht hi
 obtain ⟨it, ps, rq⟩ := t
 obtain ⟨pv, qv, rfl, hps, hrq⟩ := h
 simp only at hps hrq hi hn hok ⊢
 obtain ⟨qa, qn, qc, rfl⟩ := hrq.shape
 obtain ⟨pa, cap, rfl, hcap, hmax, hlen, pf, mf, hl, hcl⟩ := id hps
 obtain ⟨bb, off, rfl, _, hbb, hcell⟩ := hcl (by intro e; simp [e] at hi)
 have h7 := hcell i hi
 obtain ⟨hpj, hmj⟩ := hl i hi
 obtain ⟨y, hy⟩ : ∃ y, ps.getD i dPl = y := ⟨_, rfl⟩
 rw [hy] at h7 hpj hmj hok ⊢
 obtain ⟨frm, c, fa⟩ := y
 simp only at hpj hmj hok ⊢
 generalize pf i = pj at hpj h7
 generalize mf i = mj at hmj h7
 obtain ⟨ya, yn, yc, rfl⟩ := hpj.shape
 obtain ⟨ua, un, uc, rfl⟩ := hmj.shape
 have hi0 : (0 : Int) ≤ (i : Int) := Int.natCast_nonneg _
 have hi1 : (i : Int) < (ps.length : Int) := by omega
 have hn0 : (0 : Int) ≤ (n : Int) := Int.natCast_nonneg _
 obtain ⟨g0, g1, g2, g3, g4, g5, g6⟩ := id h7
 simp only at g0 g1 g2 g3 g4 g5 g6
 have hW0 : ∀ W, W = (w.alloc (.cells #[.int .i64 it, .slice (some ⟨bb, off, none⟩) ps.length cap, .slice qa qn qc] 31)).alloc (.cells #[.int .i64 c.pol, .int .i64 c.size, .slice ya yn yc, .slice ua un uc, .int .i64 c.hand] 66) →
   Chg No w W ∧ Box W (w.heap.size + 1) (.int .i64 c.pol) (.int .i64 c.size) (.slice ya yn yc) (.slice ua un uc) (.int .i64 c.hand) := fun W e => by
  subst e
  exact ⟨((Chg.refl No w).alloc _).alloc _, (Box.new (w.alloc (.cells #[.int .i64 it, .slice (some ⟨bb, off, none⟩) ps.length cap, .slice qa qn qc] 31)) _ _ _ _ _ 66).at (by simp)⟩
 have HW0 := Lib.hid hW0
 clear hW0 hcell hcl hl h7 hy ht
 go_enter Tryz.func116, Tryz.ntmps116
 go_wp2_with fail
 clear g0 g1 g2 g3 g4 g5 g6
 generalize hWW : (w.alloc _).alloc _ = W1
 obtain ⟨kk, bx⟩ := HW0.out W1 hWW.symm
 clear hWW HW0
 have hbx := bx.lt
 refine (l1Own_any No _ rq W1 (hrq.keep kk)).mono ?_
 rintro e w2 ⟨v2, rfl, o2, k2⟩
 have hs2 := k2.size
 have hk2 := kk.keep k2
 have bx2 := bx.keep k2
 have hs1 := kk.size
 have hB2 : ∀ q, (q = w.heap.size + 1 ∨ own v2 q) → No q ∨ w.heap.size ≤ q := fun q hq => .inr (by
  rcases hq with e | e
  ·omega
  ·have := (o2.lt q e).1; omega)
 have hp2 := hpj.to (B := fun q => q = w.heap.size + 1 ∨ own v2 q) hk2 (fun _ e => e.elim) hB2
 have hm2 := hmj.to (B := fun q => q = w.heap.size + 1 ∨ own v2 q) hk2 (fun _ e => e.elim) hB2
 have o2' := o2.weak (base' := w.heap.size + 2) (by omega)
 have HOK := Lib.hid hok
 clear bx k2 o2 kk hB2 hpj hmj hok
 obtain ⟨B7, hB7⟩ : ∃ B7, w.heap.size + 1 = B7 := ⟨_, rfl⟩
 rw [hB7] at bx2 hp2 hm2 hbx ⊢
 go_wp2_with fail
 go_loopw [8, 9] (fun o z wr => ∃ (j : Nat) (pv mv : Value), j ≤ n ∧ z = .int .i64 (j : Int) ∧ OI (w.heap.size + 2) wr o (rq ++ cruelI c j) ∧
   Box wr B7 (.int .i64 (runC c (cruelI c j)).pol) (.int .i64 (runC c (cruelI c j)).size) pv mv (.int .i64 (runC c (cruelI c j)).hand) ∧
   RI (fun q => q = B7 ∨ own o q) wr pv (runC c (cruelI c j)).pages ∧ RI (fun q => q = B7 ∨ own o q) wr mv (runC c (cruelI c j)).marks ∧ Chg No w wr) (fun _ z _ => n - (intOf z).toNat)
 case atStart => exact ⟨0, _, _, Nat.zero_le _, rfl, by simp only [cruelI, List.append_nil]; exact o2', bx2, hp2, hm2, hk2⟩
 case round =>
  clear bx2 hp2 hm2 o2' hk2
  obtain ⟨j, pv, mv, hj, rfl, ho, hbox, hp, hm, hch⟩ := hrel
  have hj0 : (0 : Int) ≤ (j : Int) := Int.natCast_nonneg _
  obtain ⟨ck, hck⟩ : ∃ ck, runC c (cruelI c j) = ck := ⟨_, rfl⟩
  have hokk : Ok ck := hck ▸ ok_run HOK.out _
  rw [hck] at hbox hp hm
  obtain ⟨xa, xn, xc, rfl⟩ := hp.shape
  obtain ⟨za, zn, zc, rfl⟩ := hm.shape
  obtain ⟨oa, on, oc, rfl⟩ := ho.shape
  obtain ⟨L, hL⟩ : ∃ L, rq ++ cruelI c j = L := ⟨_, rfl⟩
  have hLL : L.length = rq.length + j := by rw [← hL, List.length_append, cruelI_len]
  rw [hL] at ho
  obtain ⟨c0, c1, c2, c3, c4, hfr⟩ := id hbox
  by_cases hlt : j < n
  ·have hj1 : (j : Int) < (n : Int) := by omega
   have hw1 : IntKind.i64.wrap ((j : Int) + 1) = (j : Int) + 1 := IntWalk.i64_in _ (by omega)
   obtain ⟨m, hmm⟩ : ∃ m, missOf ck.pages = m := ⟨_, rfl⟩
   have hmiss : IsMiss ck.pages m := hmm ▸ missOf_spec _
   have hS1 : cruelI c (j + 1) = cruelI c j ++ [(m : Int)] := by rw [← hmm, ← hck]; rfl
   have hS2 : runC c (cruelI c (j + 1)) = stepC ck (m : Int) := by rw [hS1, runC_one, hck]
   have hS3 : rq ++ cruelI c (j + 1) = L ++ [(m : Int)] := by rw [hS1, ← List.append_assoc, hL]
   have HS2 := Lib.hid hS2
   have HS3 := Lib.hid hS3
   have HLL := Lib.hid hLL
   clear hS1 hS2 hS3 hmm hck hL hLL
   go_wp2_with fail
   refine (l7Missing_any _ _ m wr (hp.weak (fun _ e _ => e.elim)) hmiss).mono ?_
   rintro e w3 ⟨rfl, rfl⟩
   go_wp2_with fail
   have hBd : Bd (fun q => q = B7 ∨ own (.slice oa on oc) q) wr := fun q hq => by
    rcases hq with e | e
    ·subst e; exact hbox.lt
    ·exact (ho.lt q e).2
   refine (l4Step_any (fun q => q = B7 ∨ own (.slice oa on oc) q) _ ck (m : Int) wr ⟨_, _, rfl, hp, hm⟩ hBd hokk).mono ?_
   rintro e w4 ⟨v4, rfl, ⟨pv3, mv3, rfl, hp3, hm3⟩, hk3⟩
   clear c0 c1 c2 c3 c4 hfr
   obtain ⟨pa3, pn3, pc3, rfl⟩ := hp3.shape
   obtain ⟨ma3, mn3, mc3, rfl⟩ := hm3.shape
   have hbox3 := hbox.keep hk3
   obtain ⟨c0, c1, c2, c3, c4, hfr⟩ := id hbox3
   have hfr0 := hfr 0
   have hfr1 := hfr 1
   have hfr2 := hfr 2
   have hfr3 := hfr 3
   have hfr4 := hfr 4
   have hbox5 := hbox3.put5 (.int .i64 (stepC ck m).pol) (.int .i64 (stepC ck m).size) (.slice pa3 pn3 pc3) (.slice ma3 mn3 mc3) (.int .i64 (stepC ck m).hand)
   have hcb := (Chg.refl (fun q => q = B7) w4).put5 (b := B7) (fun _ => rfl) (.int .i64 (stepC ck m).pol) (.int .i64 (stepC ck m).size) (.slice pa3 pn3 pc3) (.slice ma3 mn3 mc3) (.int .i64 (stepC ck m).hand)
   have hp5 := hp3.step hcb (fun q hq => .inl hq)
   have hm5 := hm3.step hcb (fun q hq => .inl hq)
   have ho5 := (ho.keep hk3).step hcb (fun q hq e => by have := (ho.lt q hq).1; omega)
   have hch5 := (hch.keep hk3).step hcb (fun q hq hl => by omega)
   have HCB := Lib.hid hcb
   have hl17 : L.length < 17592186044416 := by rw [HLL.out]; omega
   obtain ⟨w5, hw5⟩ : ∃ w5, (((((w4.setCell ⟨B7, 0, none⟩ (.int .i64 (stepC ck m).pol)).setCell ⟨B7, 1, none⟩ (.int .i64 (stepC ck m).size)).setCell ⟨B7, 2, none⟩ (.slice pa3 pn3 pc3)).setCell ⟨B7, 3, none⟩ (.slice ma3 mn3 mc3)).setCell ⟨B7, 4, none⟩ (.int .i64 (stepC ck m).hand)) = w5 := ⟨_, rfl⟩
   have hz5 : w4.heap.size = w5.heap.size := by rw [← hw5]; simp
   rw [hw5] at hbox5 hp5 hm5 ho5 hch5
   have hb7 := hbox5.lt
   have hs2 : w.heap.size + 2 ≤ w5.heap.size := by omega
   have HW5 := Lib.hid hw5
   have HZ5 := Lib.hid hz5
   have HS2' := Lib.hid hs2
   have HH5 := Lib.hid (And.intro hbox5 (And.intro hp5 (And.intro hm5 hch5)))
   clear hbox hp hm hch ho hp3 hm3 hbox3 hk3 hcb hbox5 hp5 hm5 hch5 hBd hb7 hw5 hz5 hs2
   go_wp2_with (at_builtin; rw [HW5.out, HZ5.out]; refine wapp1 rfl (.tmp 31) (.tmp 33) rfl ho5 rfl rfl hl17 HS2'.out ?_)
   intro v7 w7 h7 k7 f7
   obtain ⟨hbox5, hp5, hm5, hch5⟩ := HH5.out
   have hA : ∀ q, own (.slice oa on oc) q → w.heap.size + 2 ≤ q := fun q hq => (ho5.lt q hq).1
   have hto : ∀ q, (q = B7 ∨ own v7 q) → (q = B7 ∨ own (.slice oa on oc) q) ∨ w5.heap.size ≤ q := fun q hq => by
    rcases hq with e | e
    ·exact .inl (.inl e)
    ·rcases f7 q e with e | e
     ·exact .inl (.inr e)
     ·exact .inr e
   have hp7 := hp5.to (B := fun q => q = B7 ∨ own v7 q) k7 (fun q hq => .inr hq) hto
   have hm7 := hm5.to (B := fun q => q = B7 ∨ own v7 q) k7 (fun q hq => .inr hq) hto
   have hbox7 := hbox5.step k7 (fun e => by have := hA _ e; omega)
   have hch7 := hch5.step k7 (fun q hq hl => by have := hA q hq; omega)
   have HEND := Lib.hid (And.intro h7 (And.intro hbox7 (And.intro hp7 (And.intro hm7 hch7))))
   obtain ⟨na, nn, nc, rfl⟩ := h7.shape
   clear h7 k7 f7 hbox5 hp5 hm5 hch5 hto hA hp7 hm7 hbox7 hch7 ho5 c0 c1 c2 c3 c4 hfr hfr0 hfr1 hfr2 hfr3 hfr4
   go_wp2_with fail
   go_round
   case measure => simp [intOf]; omega
   case rel =>
    obtain ⟨e1, e2, e3, e4, e5⟩ := HEND.out
    refine ⟨j + 1, .slice pa3 pn3 pc3, .slice ma3 mn3 mc3, by omega, by go_num, by rw [HS3.out]; exact e1, by rw [HS2.out]; exact e2, by rw [HS2.out]; exact e3, by rw [HS2.out]; exact e4, e5⟩
  ·have hje : j = n := by omega
   subst hje
   have HE := Lib.hid (And.intro ho hch)
   have HL := Lib.hid hL
   clear hp hm hbox c0 c1 c2 c3 c4 hfr ho hch hck hL hLL
   go_wp2_with fail
   go_ret
   exact ⟨_, rfl, by rw [HL.out]; exact HE.out.1.weak (by omega), HE.out.2⟩
end Go.Proofs.YtdgcohoneijleaaGreatDoor
