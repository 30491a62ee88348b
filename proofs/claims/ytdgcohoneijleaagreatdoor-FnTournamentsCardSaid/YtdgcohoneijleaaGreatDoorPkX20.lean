import Derived.Test.YtdgcohoneijleaaGreatDoorPkX18
import Derived.Test.YtdgcohoneijleaaGreatDoorPkX19
import Derived.Test.YtdgcohoneijleaaGreatDoorPkX15
import Derived.Test.YtdgcohoneijleaaGreatDoorPkX8
import Derived.Test.YtdgcohoneijleaaGreatDoorPkX3
import Derived.Test.YtdgcohoneijleaaGreatDoorPkX11
set_option maxRecDepth 100000
namespace Go.Proofs.YtdgcohoneijleaaGreatDoor
open Go.RowKit
theorem RF.uptoG {A : Nat → Prop} {w : World} {a : Option Addr} {n cap sz : Nat} {cs : List Value} (T : TypeId) (hu : Tryz.prog.underlying T = some (.slice (Tryz.prog.elem T))) (hz : ∀ w, (sizeOf (Tryz.prog.elem T)).run Tryz.prog w = .ok sz w) (h : RF A w (.slice a n cap) sz n cs) (i : Nat) (hi : i ≤ n) :
  ∃ a' c', (∀ w' : World, (Instr.slice T (.slice a n cap) none (some (.int .i64 (i : Int))) none).run Tryz.prog w' = .ok (.slice a' i c') w') ∧ RF A w (.slice a' i c') sz i (cs.take (i * sz)) := by
 obtain ⟨a0, cap0, he, h1, h2, h3, h0, h4⟩ := h
 simp only [Value.slice.injEq, true_and] at he
 obtain ⟨rfl, rfl⟩ := he
 refine ⟨if cap = 0 then a else a.map (·.add (0 * sz)), cap - 0, fun w' => ?_, ?_⟩
 ·rw [run_slice_h w' T a n cap hu .i64 i (by omega) (by omega), hz]
  simp [Result.andThen, sliced]
 ·have hm : i * sz ≤ n * sz := Nat.mul_le_mul_right _ hi
  refine ⟨_, _, rfl, by omega, by omega, by rw [List.length_take, h3]; omega, fun hn => ?_, fun hp => ?_⟩
  ·by_cases hc : cap = 0
   ·omega
   ·rw [if_neg hc] at hn
    have := h0 (by simpa using hn)
    omega
  ·obtain ⟨b, off, rfl, hA, hb, hcell⟩ := h4 (by omega)
   refine ⟨b, off, ?_, hA, hb, fun k hk => ?_⟩
   ·have : ¬ cap = 0 := by omega
    simp [this, Addr.add]
   ·rw [List.length_take] at hk
    rw [hcell k (by omega), List.getD_eq_getElem?_getD, List.getD_eq_getElem?_getD, List.getElem?_take_of_lt (by omega)]
theorem RF.fromG {A : Nat → Prop} {w : World} {a : Option Addr} {n cap sz : Nat} {cs : List Value} (T : TypeId) (hu : Tryz.prog.underlying T = some (.slice (Tryz.prog.elem T))) (hz : ∀ w, (sizeOf (Tryz.prog.elem T)).run Tryz.prog w = .ok sz w) (h : RF A w (.slice a n cap) sz n cs) (i : Nat) (hi : i ≤ n) :
  ∃ a' c', (∀ w' : World, (Instr.slice T (.slice a n cap) (some (.int .i64 (i : Int))) none none).run Tryz.prog w' = .ok (.slice a' (n - i) c') w') ∧ RF A w (.slice a' (n - i) c') sz (n - i) (cs.drop (i * sz)) := by
 obtain ⟨a0, cap0, he, h1, h2, h3, h0, h4⟩ := h
 simp only [Value.slice.injEq, true_and] at he
 obtain ⟨rfl, rfl⟩ := he
 refine ⟨if cap = i then a else a.map (·.add (i * sz)), cap - i, fun w' => ?_, ?_⟩
 ·rw [run_slice_l w' T a n cap hu .i64 i (by omega) (by omega), hz]
  simp [Result.andThen, sliced]
 ·refine ⟨_, _, rfl, by omega, by omega, by rw [List.length_drop, h3, ← Nat.sub_mul], fun hn => ?_, fun hp => ?_⟩
  ·by_cases hc : cap = i
   ·omega
   ·rw [if_neg hc] at hn
    have := h0 (by simpa using hn)
    omega
  ·obtain ⟨b, off, rfl, hA, hb, hcell⟩ := h4 (by omega)
   refine ⟨b, off + i * sz, ?_, hA, hb, fun k hk => ?_⟩
   ·have : ¬ cap = i := by omega
    simp [this, Addr.add]
   ·rw [List.length_drop] at hk
    rw [Nat.add_assoc, hcell (i * sz + k) (by omega), List.getD_eq_getElem?_getD, List.getD_eq_getElem?_getD, List.getElem?_drop]
theorem oappS {o : Oper} {a : Act} {K : Act → World → Prop} {Q : Exit → Act → World → Prop} {w : World} {T E : TypeId} {z : Value} {sz bytes : Nat} (t : El T E z sz bytes) (hby : bytes ≤ 128) (s x : Operand)
  (ho : o.op = .call { callee := .builtin .append, args := #[s, x], argTypes := #[T, T] })
  {base : Nat} {v xv : Value} {n m : Nat} {cs ds : List Value} (hown : OS E sz base w v n cs) (hxr : RF No w xv sz m ds) (h1 : ∀ u ∈ ds, u.oneCell' = true) (hs : a.eval s = v) (hx : a.eval x = xv) (hl : n + m ≤ 1099511627776) (hbase : base ≤ w.heap.size)
  (h : ∀ v' w', OS E sz base w' v' (n + m) (cs ++ ds) → Chg (own v) w w' → (∀ k, own v' k → own v k ∨ w.heap.size ≤ k) → K (a.put o.dst v') w') : Oper.wp Tryz.prog o a w K Q := by
 obtain ⟨v', w', hr, h1, h2, h3⟩ := run_appS t hby o.type hown hxr h1 hl hbase
 unfold Oper.wp execOp
 simp only [ho, resolve, invoke, builtin, Sem.run_bind, Sem.run_pure, Result.andThen_ok, List.map_toArray, List.map_cons, List.map_nil, hs, hx, hr]
 exact h v' w' h1 h2 h3
set_option maxHeartbeats 4000000 in
theorem l12Leave_any (v : Value) (t : To) (i : Nat) (w : World) (h : RT No w v t) (ht : tourB t = true) (hi : i < t.ps.length) :
  Calls Tryz.prog 115 #[v, .int .i64 (i : Int)] w (Ret fun r w' => TA w.heap.size w' r (leaveT t (i : Int)) ∧ Chg No w w') := by
 have h0 := h
 have hs := sv_of ht
 obtain ⟨hl1, _⟩ := tour_len ht
 obtain ⟨it, ps, rq⟩ := t
 obtain ⟨pv, qv, rfl, hps, hrq⟩ := h
 simp only at hps hrq hs hi hl1
 obtain ⟨qa, qc, rfl, _⟩ := id hrq
 obtain ⟨a, cap, rfl, hcap, hmax, hlen, pf, mf, hl, hcl⟩ := id hps
 have HS := Lib.hid hs
 clear hl hcl hs ht
 have hW0 : ∀ W, W = (w.alloc (.cells #[.int .i64 it, .slice a ps.length cap, .slice qa rq.length qc] 31)).alloc (.cells #[.int .i64 0, .slice none 0 0, .slice none 0 0] 31) → Chg No w W ∧ Box3 W w.heap.size (.int .i64 it) (.slice a ps.length cap) (.slice qa rq.length qc) ∧ Box3 W (w.heap.size + 1) (.int .i64 0) (.slice none 0 0) (.slice none 0 0) := fun W e => by
  subst e
  exact boxes32 (R := fun W => Chg No w W ∧ Box3 W w.heap.size (.int .i64 it) (.slice a ps.length cap) (.slice qa rq.length qc) ∧ Box3 W (w.heap.size + 1) (.int .i64 0) (.slice none 0 0) (.slice none 0 0)) (fun W k b0 b1 => ⟨k, b0, b1⟩)
 have HW0 := Lib.hid hW0
 clear hW0
 go_enter Tryz.func115, Tryz.ntmps115
 go_wp2_with fail
 generalize hWW : (w.alloc _).alloc _ = W1
 obtain ⟨kk, b2, b4⟩ := HW0.out W1 hWW.symm
 clear hWW HW0
 obtain ⟨c0, c1, c2, _⟩ := id b2
 go_wp2_with fail
 refine (l12With_any _ _ ⟨it, ps, rq⟩ rq W1 (h0.keep kk) (hrq.keep kk) HS.out).mono ?_
 rintro e w2 ⟨v2, rfl, ⟨pv2, pg, mg, rv2, rfl, hP, hR, hd⟩, k2⟩
 simp only at hP hR hd ⊢
 obtain ⟨L0, hL0⟩ : ∃ L0, againP ps rq = L0 := ⟨_, rfl⟩
 have hLn : L0.length = ps.length := by rw [← hL0, againP_len]
 have HL0 := Lib.hid hL0
 rw [hL0] at hP hd
 clear c0 c1 c2 hL0
 obtain ⟨oa, oc, rfl, _⟩ := hP.os.view
 obtain ⟨ya, yn, yc, rfl⟩ := hR.shape
 obtain ⟨m, hm⟩ : ∃ m, L0.length = m + 1 := ⟨L0.length - 1, by omega⟩
 have him : i ≤ m := by omega
 have hm4 : m ≤ 4 := by omega
 have HLM := Lib.hid hm
 have hsz1 := b4.lt
 replace kk := kk.keep k2
 replace b2 := b2.keep k2
 replace b4 := b4.keep k2
 have hone := hP.one (m + 1) (by omega)
 obtain ⟨cs, hcs⟩ : ∃ cs, rowC L0 pg mg (m + 1) = cs := ⟨_, rfl⟩
 have hos := hP.os
 rw [hm, hcs] at hos
 rw [hcs] at hone
 rw [hm] at hd hP ⊢
 obtain ⟨p1, q1, hF1, hRF1⟩ := hos.readNo.uptoG 29 und_playersE run_szP i (by omega)
 obtain ⟨p2, q2, hF2, hRF2⟩ := hos.readNo.fromG 29 und_playersE run_szP (i + 1) (by omega)
 have hie : ((i + 1 : Nat) : Int) = (i : Int) + 1 := by omega
 rw [hie] at hF2
 have hmi : m + 1 - (i + 1) = m - i := by omega
 rw [hmi] at hF2 hRF2
 have hw1 : IntKind.i64.wrap ((i : Int) + 1) = (i : Int) + 1 := IntWalk.i64_in _ (by omega)
 have HCS := Lib.hid hcs
 have HONE := Lib.hid hone
 have HPX := Lib.hid hP
 clear hcs hone hie hmi hLn hm hl1 hi
 obtain ⟨c0, c1, c2, _⟩ := id b2
 go_wp2_with fail
 clear c0 c1 c2
 have b8 := Box3.new w2 (.int .i64 it) (.slice oa (m + 1) oc) (.slice ya yn yc) 31
 have ka := (Chg.refl No w2).alloc (.cells #[.int .i64 it, .slice oa (m + 1) oc, .slice ya yn yc] 31)
 obtain ⟨B8, hB8⟩ : ∃ B8, w2.heap.size = B8 := ⟨_, rfl⟩
 have hB1 : W1.heap.size ≤ B8 := hB8 ▸ k2.size
 have hcl : ∀ q, own (.slice ya yn yc) q → q < B8 := fun q hq => hB8 ▸ (hR.lt q hq).2
 have hFl : ∀ q, FA (.slice oa (m + 1) oc) L0.length pg mg q → q < B8 := fun q hq => hB8 ▸ (hP.inF q hq).2
 generalize w2.alloc (.cells #[.int .i64 it, .slice oa (m + 1) oc, .slice ya yn yc] 31) = W3 at b8 ka ⊢
 rw [hB8] at b8 ⊢
 replace kk := kk.keep ka
 replace b4 := b4.keep ka
 replace hP := hP.keep ka
 replace hR := hR.keep ka
 replace hRF1 := hRF1.keep ka
 replace hRF2 := hRF2.keep ka
 clear ka hB8 b2 hos
 refine wp_region_K (S := fun W => W.cell? ⟨B8, 1, none⟩ = some (.slice oa (m + 1) oc)) (k := 11) (by kernel_rfl) ?_
 replace kk := kk.keep (drewN0 _)
 replace b4 := b4.keep (drewN0 _)
 replace b8 := b8.keep (drewN0 _)
 replace hP := hP.keep (drewN0 _)
 replace hR := hR.keep (drewN0 _)
 replace hRF1 := hRF1.keep (drewN0 _)
 replace hRF2 := hRF2.keep (drewN0 _)
 generalize W3.drew = WR at kk b4 b8 hP hR hRF1 hRF2 ⊢
 have hS : WR.cell? ⟨B8, 1, none⟩ = some (.slice oa (m + 1) oc) := b8.c1
 have hb8l := b8.lt
 refine wpAnyK_take0 1 (.pointer (some ⟨B8, 1, none⟩)) rfl (by kernel_rfl) (fun _ _ _ h => h) hS rfl (by intro w; go_simp) ?_
 simp only [zA, zB, zC, zD, zE, zF, zG]
 refine wpAnyK_takeT 2 (.slice oa (m + 1) oc) rfl (by kernel_rfl) (fun _ _ _ h => h) hS rfl (by intro w hSw; go_simp) ?_
 simp only [zA, zB, zC, zD, zE, zF, zG]
 refine wpAnyK_take0 3 (.int .i64 (i : Int)) rfl (by kernel_rfl) (fun _ _ _ h => h) hS rfl (by intro w; go_simp) ?_
 simp only [zA, zB, zC, zD, zE, zF, zG]
 refine wpAnyK_take0 4 (.slice p1 i q1) rfl (by kernel_rfl) (fun _ _ _ h => h) hS rfl (by intro w; go_simp) ?_
 simp only [zA, zB, zC, zD, zE, zF, zG]
 refine wpAnyK_take0 6 (.pointer (some ⟨B8, 1, none⟩)) rfl (by kernel_rfl) (fun _ _ _ h => h) hS rfl (by intro w; go_simp) ?_
 simp only [zA, zB, zC, zD, zE, zF, zG]
 refine wpAnyK_takeT 7 (.slice oa (m + 1) oc) rfl (by kernel_rfl) (fun _ _ _ h => h) hS rfl (by intro w hSw; go_simp) ?_
 simp only [zA, zB, zC, zD, zE, zF, zG]
 refine wpAnyK_take0 8 (.int .i64 (i : Int)) rfl (by kernel_rfl) (fun _ _ _ h => h) hS rfl (by intro w; go_simp) ?_
 simp only [zA, zB, zC, zD, zE, zF, zG]
 refine wpAnyK_take0 9 (.int .i64 ((i : Int) + 1)) rfl (by kernel_rfl) (fun _ _ _ h => h) hS rfl (by intro w; go_simp) ?_
 simp only [zA, zB, zC, zD, zE, zF, zG]
 refine wpAnyK_take0 10 (.slice p2 (m - i) q2) rfl (by kernel_rfl) (fun _ _ _ h => h) hS rfl (by intro w; go_simp) ?_
 simp only [zA, zB, zC, zD, zE, zF, zG]
 refine wpAnyK_1 0 (by kernel_rfl) (wpOpK' rfl rfl ?_)
 intro K hK
 unfold Oper.wp execOp
 go_simp
 have kx := (Chg.refl No WR).alloc (.cells #[] 68)
 refine hK.out _ _ (b8.keep kx).c1 ?_
 clear hK K hS
 simp only [zE]
 have oG := OS.zero (E := 68) (sz := 7) (base := WR.heap.size) (w := WR) (Nat.le_refl _)
 obtain ⟨G, hG⟩ : ∃ G, WR.heap.size = G := ⟨_, rfl⟩
 rw [hG] at oG
 have hGown : ∀ q, own (.slice (some ⟨G, 0, none⟩) 0 0) q → G ≤ q := fun q hq => (oG.lt q hq).1
 have b8x := b8.keep kx
 have r1x := hRF1.keep kx
 have r2x := (hRF2.weak (B := fun q => G ≤ q) (fun q e hl => by omega)).keep kx
 rw [hG]
 generalize WR.alloc (.cells #[] 68) = WX at kx oG b8x r1x r2x ⊢
 refine wpAnyK_1 5 (by kernel_rfl) (wpOpK' rfl rfl ?_)
 intro K hK
 refine oappS elPlayers (by omega) (.tmp 10) (.tmp 14) rfl oG r1x (fun u hu => HONE.out u (List.mem_of_mem_take hu)) rfl rfl (by omega) (by have := kx.size; omega) (fun v15 W15 o15 k15 f15 => hK.out _ _ (b8x.step k15 (fun e => by have := hGown _ e; omega)).c1 ?_)
 clear hK K
 simp only [zA, zB, zC, zD, zE, zF, zG]
 have h15 : ∀ q, own v15 q → G ≤ q := fun q hq => by
  rcases f15 q hq with e | e
  ·exact hGown q e
  ·have := kx.size; omega
 have r2y := (r2x.step k15 (fun q e => hGown q e)).weak (B := No) (fun q e _ => e.elim)
 have b8y := b8x.step k15 (fun e => by have := hGown _ e; omega)
 have k15' : Chg No WR W15 := kx.step k15 (fun q e hl => by have := hGown q e; omega)
 refine wpAnyK_tail 11 rfl (by kernel_rfl) ?_
 simp only [List.drop_succ_cons, List.drop_zero]
 go_wp2_with (at_builtin; refine wappS elPlayers (by omega) rfl (.tmp 15) (.tmp 20) rfl o15 r2y (fun u hu => HONE.out u (List.mem_of_mem_drop hu)) rfl rfl (by omega) (by have := k15'.size; omega) ?_)
 intro vN wN oN kN fN
 have hmm : 0 + i + (m - i) = m := by omega
 have oN : OS 68 7 G wN vN m (List.take (i * 7) cs ++ List.drop ((i + 1) * 7) cs) := by first | exact oN | (rw [hmm, List.nil_append] at oN; exact oN)
 have hN : ∀ q, own vN q → G ≤ q := fun q hq => by
  rcases fN q hq with e | e
  ·exact h15 q e
  ·have := k15'.size; omega
 have kN' : Chg No WR wN := k15'.step kN (fun q e hl => by have := h15 q e; omega)
 have hPe := hP.erase (i := i) HLM.out him (oN.weak (base' := W1.heap.size) (by omega) |> fun x => by rw [HCS.out]; exact x) kN' (fun q e => e.elim) (fun q e => .inr (by have := hN q e; omega))
 have hFe : ∀ q, FA vN m (fun k => pg (sg i k)) (fun k => mg (sg i k)) q → q ≠ B8 ∧ ¬ own (.slice ya yn yc) q := fun q hq => by
  rcases FA.erase (v := .slice oa (m + 1) oc) (b := G) (fun e => .inr (hN q e)) hq with e | e
  ·refine ⟨fun e2 => ?_, hd q e⟩
   have := hFl q (by rw [HLM.out]; exact e)
   omega
  ·exact ⟨by omega, fun e2 => by have := hcl q e2; omega⟩
 have b8N := b8.keep kN'
 replace kk := kk.keep kN'
 replace b4 := b4.keep kN'
 replace hR := hR.keep kN'
 obtain ⟨na, nc, rfl, _⟩ := oN.view
 have hb81 := b8N.c1
 have hb8f := b8N.fr 1
 have cN : Chg (fun q => q = B8) wN (wN.setCell ⟨B8, 1, none⟩ (.slice na m nc)) := (Chg.refl (fun q => q = B8) wN).setCell (p := ⟨B8, 1, none⟩) (fun _ => rfl) _
 obtain ⟨d0, d1, d2, _⟩ := b8N.set1 (.slice na m nc)
 have hle : (L0.eraseIdx i).length = m := by rw [List.length_eraseIdx, HLM.out, if_pos (by omega)]; omega
 have HP9 := hPe.step cN (fun q hq e => (hFe q (by rw [hle] at hq; exact hq)).1 e)
 replace kk := kk.step cN (fun q hq hl => by omega)
 replace b4 := b4.step cN (by omega)
 replace hR := hR.step cN (fun q hq e => by have := hcl q hq; omega)
 obtain ⟨WS, hWS⟩ : ∃ WS, wN.setCell ⟨B8, 1, none⟩ (.slice na m nc) = WS := ⟨_, rfl⟩
 have HWS := Lib.hid hWS
 rw [hWS] at HP9 kk b4 hR d0 d1 d2
 obtain ⟨e0, e1, e2, cf⟩ := id b4
 have cf0 := cf 0
 have cf1 := cf 1
 have cf2 := cf 2
 clear cf
 obtain ⟨z0, z1, z2, _⟩ := ((b4.set0 (.int .i64 it)).set1 (.slice na m nc)).set2 (.slice ya yn yc)
 have ch : Chg (fun q => q = w.heap.size + 1) WS (((WS.setCell ⟨w.heap.size + 1, 0, none⟩ (.int .i64 it)).setCell ⟨w.heap.size + 1, 1, none⟩ (.slice na m nc)).setCell ⟨w.heap.size + 1, 2, none⟩ (.slice ya yn yc)) :=
  (((Chg.refl (fun q => q = w.heap.size + 1) WS).setCell (p := ⟨w.heap.size + 1, 0, none⟩) (fun _ => rfl) _).setCell (p := ⟨w.heap.size + 1, 1, none⟩) (fun _ => rfl) _).setCell (p := ⟨w.heap.size + 1, 2, none⟩) (fun _ => rfl) _
 have hsz3 : w.heap.size ≤ W1.heap.size := by omega
 have f1 := (HP9.step ch (fun q hq e => by have := (HP9.inF q hq).1; omega)).weak (base' := w.heap.size) hsz3
 have f2 := (hR.step ch (fun q hq e => by have := (hR.lt q hq).1; omega)).weak (base' := w.heap.size) hsz3
 have f3 : ∀ q, FA (.slice na m nc) (L0.eraseIdx i).length (fun k => pg (sg i k)) (fun k => mg (sg i k)) q → ¬ own (.slice ya yn yc) q := fun q hq => (hFe q (by rw [hle] at hq; exact hq)).2
 have hk := kk.step ch (fun q hq hl => by omega)
 have HEND := Lib.hid (And.intro f1 (And.intro f2 (And.intro f3 hk)))
 have HLI : Hid (leaveT ⟨it, ps, rq⟩ (i : Int) = ⟨it, L0.eraseIdx i, rq⟩) := Lib.hid (by unfold leaveT; simp only [HL0.out]; rw [show (i : Int).toNat = i by omega])
 clear f1 f2 f3 hk HP9 kk ch b4 b8 b8x b8y b8N hR hP hd hFl hcl cN oN kN fN hPe hFe kN' k15 k15' f15 r1x r2x r2y oG kx hRF1 hRF2 o15 hF1 hF2 hN h15 hGown hle
 go_wp2_with fail
 exact bodyPost_ret (v := .agg #[.int .i64 it, .slice na m nc, .slice ya yn yc]) (by simp [results, Tryz.results115, go_sem, z0, z1, z2]) rfl ⟨_, rfl, by
  rw [HLI.out]
  exact ⟨_, _, _, _, rfl, HEND.out.1, HEND.out.2.1, HEND.out.2.2.1⟩, HEND.out.2.2.2⟩
end Go.Proofs.YtdgcohoneijleaaGreatDoor
namespace Go.Proofs.YtdgcohoneijleaaGreatDoor
open Go.RowKit
theorem run_appK {w : World} {T E : TypeId} {z : Value} {sz bytes : Nat} (t : El T E z sz bytes) (hby : bytes ≤ 128) (ty : TypeId) {base : Nat} {v xv : Value} {n m : Nat} {cs ds : List Value} (hown : OS E sz base w v n cs) (hx : RF No w xv sz m ds) (h1 : ∀ u ∈ ds, u.oneCell' = true)
  (hl : n + m ≤ 1099511627776) (hbase : base ≤ w.heap.size) :
  ∃ v' w', (Builtin.append_ #[T, T] ty #[v, xv]).run Tryz.prog w = .ok v' w' ∧ OS E sz base w' v' (n + m) (cs ++ ds) ∧ Chg (own v) w w' ∧ (∀ k, own v' k → own v k ∨ w.heap.size ≤ k) ∧ RF No w' v sz n cs := by
 obtain ⟨v', w', hr, ho, hc, hk⟩ := run_appS t hby ty hown hx h1 hl hbase
 refine ⟨v', w', hr, ho, hc, hk, ?_⟩
 obtain ⟨i0, hi, hz0, hz1, hz2⟩ := t.info
 have hb1 : (n + m) * bytes ≤ 140737488355328 := Nat.le_trans (Nat.mul_le_mul hl hby) (by omega)
 obtain ⟨ao, c, rfl, hx1, hx2, hx3, hx0, hx4⟩ := hx
 rcases hown.2.2 with ⟨rfl, h0⟩ | ⟨g, cap, cur, rfl, hbg, hgg, hnc, hcm, hcs, htake⟩
 ·have hn := hown.view
  obtain ⟨a, cap, he, h2, h3, h4, _⟩ := hn
  have h5 := hown.cl
  simp only [Value.slice.injEq] at he
  obtain ⟨rfl, rfl, rfl⟩ := he
  exact ⟨_, _, rfl, h2, h3, h5, h4, fun e => absurd e (by omega)⟩
 ·have hov := hown.view
  obtain ⟨a, cap', he, h2, h3, h4, h6⟩ := hov
  have h5 := hown.cl
  simp only [Value.slice.injEq, true_and] at he
  obtain ⟨rfl, rfl⟩ := he
  cases ao with
  | none =>
   have hc0 := hx0 rfl
   subst hc0
   have hm0 : m = 0 := by omega
   subst hm0
   have hr2 := run_append_owned_none (P := Tryz.prog) w base T ty E i0 sz t.und hi _ _ _ hown.2
   rw [hr] at hr2
   simp only [Result.ok.injEq] at hr2
   obtain ⟨rfl, rfl⟩ := hr2
   exact hown.readNo
  | some ad =>
   have hnews : ∀ j u, ds[j]? = some u → w.cell? (ad.add j) = some u := by
    intro j u hj
    have hjl : j < ds.length := (List.getElem?_eq_some_iff.1 hj).1
    have hm0 : 0 < m := by
     rcases Nat.eq_zero_or_pos m with h | h
     ·subst h; simp at hx3; subst hx3; simp at hjl
     ·exact h
    obtain ⟨b, off, he, _, _, hcell⟩ := hx4 hm0
    obtain rfl := Option.some.inj he
    rw [Addr.add_lit, hcell j hjl, List.getD_eq_getElem?_getD, hj]
    rfl
   by_cases hroom : n + m ≤ cap
   ·obtain ⟨w2, hr2, _, _⟩ := run_append_fits (P := Tryz.prog) w base T ty E i0 sz t.und hi hz1 g n cap _ hown.2 ad m c ds hx3 hnews h1 hroom
    rw [hr] at hr2
    simp only [Result.ok.injEq] at hr2
    obtain ⟨rfl, rfl⟩ := hr2
    obtain ⟨ha1, _, _, ha4, _⟩ := ho.at
    refine ⟨_, _, rfl, h2, h3, h5, h4, fun _ => ⟨g, 0, rfl, fun e => e, ha4, fun i hi => ?_⟩⟩
    rw [Nat.zero_add, ha1 i (by rw [List.length_append]; omega)]
    rw [List.getD_eq_getElem?_getD, List.getD_eq_getElem?_getD, List.getElem?_append_left hi]
   ·have hfit : Builtin.nextslicecap (n + m) cap * i0.bytes ≤ 281474976710656 := by rw [hz2]; exact growslice_fits (by omega) (by omega)
    have hr2 := run_append_grow (P := Tryz.prog) w T ty E i0 z t.und hi hz0 ⟨g, 0, none⟩ n cap cs (by rw [hown.cl, hz1])
     (hown.2.cells (g := g) rfl) ad m c ds (by rw [hx3, hz1]) hnews (by omega) (by omega) hfit
    rw [hr] at hr2
    simp only [Result.ok.injEq] at hr2
    obtain ⟨rfl, rfl⟩ := hr2
    exact (hown.keep (((Chg.refl No w).drew).alloc _)).readNo
theorem oappK {o : Oper} {a : Act} {K : Act → World → Prop} {Q : Exit → Act → World → Prop} {w : World} {T E : TypeId} {z : Value} {sz bytes : Nat} (t : El T E z sz bytes) (hby : bytes ≤ 128) (s x : Operand)
  (ho : o.op = .call { callee := .builtin .append, args := #[s, x], argTypes := #[T, T] })
  {base : Nat} {v xv : Value} {n m : Nat} {cs ds : List Value} (hown : OS E sz base w v n cs) (hxr : RF No w xv sz m ds) (h1 : ∀ u ∈ ds, u.oneCell' = true) (hs : a.eval s = v) (hx : a.eval x = xv) (hl : n + m ≤ 1099511627776) (hbase : base ≤ w.heap.size)
  (h : ∀ v' w', OS E sz base w' v' (n + m) (cs ++ ds) → Chg (own v) w w' → (∀ k, own v' k → own v k ∨ w.heap.size ≤ k) → RF No w' v sz n cs → K (a.put o.dst v') w') : Oper.wp Tryz.prog o a w K Q := by
 obtain ⟨v', w', hr, h1, h2, h3, h4⟩ := run_appK t hby o.type hown hxr h1 hl hbase
 unfold Oper.wp execOp
 simp only [ho, resolve, invoke, builtin, Sem.run_bind, Sem.run_pure, Result.andThen_ok, List.map_toArray, List.map_cons, List.map_nil, hs, hx, hr]
 exact h v' w' h1 h2 h3 h4
theorem getD_appL {α : Type} (l m : List α) (d : α) (i : Nat) : (l ++ m).getD i d = if i < l.length then l.getD i d else m.getD (i - l.length) d := by
 simp only [List.getD_eq_getElem?_getD]
 by_cases h : i < l.length
 ·rw [if_pos h, List.getElem?_append_left h]
 ·rw [if_neg h, List.getElem?_append_right (by omega)]
theorem rowC_app (ls ms : List Pl) (pf mf pf' mf' : Nat → Value) (n : Nat) : rowC ls pf mf ls.length ++ rowC ms pf' mf' n = rowC (ls ++ ms) (fun i => if i < ls.length then pf i else pf' (i - ls.length)) (fun i => if i < ls.length then mf i else mf' (i - ls.length)) (ls.length + n) := by
 induction n with
 | zero =>
  simp only [rowC, List.append_nil, Nat.add_zero]
  exact rowC_congr _ _ _ _ _ _ _ (fun i hi => ⟨by rw [getD_appL, if_pos hi], by rw [if_pos hi], by rw [if_pos hi]⟩)
 | succ n ih =>
  rw [← Nat.add_assoc]
  simp only [rowC]
  rw [← List.append_assoc, ih]
  congr 1
  rw [getD_appL, if_neg (by omega), if_neg (by omega), if_neg (by omega), Nat.add_sub_cancel_left]
theorem OS.rps {base : Nat} {w : World} {v : Value} {ls : List Pl} {pf mf : Nat → Value} (h : OS 68 7 base w v ls.length (rowC ls pf mf ls.length)) (hn : ls.length ≤ 1048576) {A : Nat → Prop} (hA : ∀ q, own v q → ¬ A q)
  (hp : ∀ i, i < ls.length → RI A w (pf i) (ls.getD i dPl).ca.pages ∧ RI A w (mf i) (ls.getD i dPl).ca.marks) : RPS A w v ls := by
 obtain ⟨a, cap, rfl, hcap, hmax, h0, hv⟩ := h.view
 refine ⟨a, cap, rfl, hcap, hmax, hn, pf, mf, hp, fun hne => ?_⟩
 obtain ⟨g, rfl, hg1, hg2, _⟩ := hv (by have : 0 < ls.length := List.length_pos_iff.mpr hne; omega)
 refine ⟨g, 0, rfl, hA g (own_slice.2 rfl), hg2, fun i hi => ?_⟩
 have hc := h.at.1
 rw [rowC_len] at hc
 have hr : ∀ r, r < 7 → w.cell? ⟨g, i * 7 + r, none⟩ = some ((plC (ls.getD i dPl) (pf i) (mf i)).getD r undef) := fun r hr => by rw [hc _ (by omega), rowC_get _ _ _ _ _ _ hi hr]
 rw [Nat.zero_add]
 exact ⟨hr 0 (by omega), hr 1 (by omega), hr 2 (by omega), hr 3 (by omega), hr 4 (by omega), hr 5 (by omega), hr 6 (by omega)⟩
theorem Cell7.other {w : World} {b o : Nat} {x : Pl} {pv mv : Value} (h : Cell7 w b o x pv mv) (b' o' : Nat) (y : Value) (hp : b' ≠ b ∨ o' < o) : Cell7 (w.setCell ⟨b', o', none⟩ y) b o x pv mv := by
 have hne : ∀ r : Nat, (⟨b', o', none⟩ : Addr) ≠ ⟨b, o + r, none⟩ := fun r e => by
  simp only [Addr.mk.injEq, and_true] at e
  omega
 have h0 := hne 0
 rw [Nat.add_zero] at h0
 exact ⟨(World.cell?_setCell_other _ _ _ _ h0).trans h.c0, (World.cell?_setCell_other _ _ _ _ (hne 1)).trans h.c1, (World.cell?_setCell_other _ _ _ _ (hne 2)).trans h.c2, (World.cell?_setCell_other _ _ _ _ (hne 3)).trans h.c3,
  (World.cell?_setCell_other _ _ _ _ (hne 4)).trans h.c4, (World.cell?_setCell_other _ _ _ _ (hne 5)).trans h.c5, (World.cell?_setCell_other _ _ _ _ (hne 6)).trans h.c6⟩
theorem PA.put0 {base : Nat} {w w' : World} {g cap : Nat} {ls : List Pl} {pf mf : Nat → Value} (h : PA base w (.slice (some ⟨g, 0, none⟩) ls.length cap) ls pf mf) (hn : ls.length ≤ 1048576) {A : Nat → Prop} (hA : ∀ q, base ≤ q → ¬ A q)
  {x' : Pl} {pv mv : Value} (hc : Chg (fun q => q = g) w w') (hx : Cell7 w' g 0 x' pv mv) (hk : ∀ i, 0 < i → i < ls.length → Cell7 w' g (i * 7) (ls.getD i dPl) (pf i) (mf i)) (hp : RI A w' pv x'.ca.pages) (hm : RI A w' mv x'.ca.marks) :
  RPS A w' (.slice (some ⟨g, 0, none⟩) ls.length cap) (ls.set 0 x') := by
 obtain ⟨a, cap', he, hcap, hmax, h0, hv⟩ := h.os.view
 simp only [Value.slice.injEq, true_and] at he
 obtain ⟨rfl, rfl⟩ := he
 have hl : (ls.set 0 x').length = ls.length := List.length_set ..
 have hget : ∀ i, (ls.set 0 x').getD i dPl = if i = 0 ∧ 0 < ls.length then x' else ls.getD i dPl := fun i => by
  simp only [List.getD_eq_getElem?_getD, List.getElem?_set]
  by_cases e : i = 0
  ·subst e
   by_cases hz : 0 < ls.length
   ·simp [hz]
   ·have : ls = [] := List.eq_nil_of_length_eq_zero (by omega)
    subst this; simp
  ·rw [if_neg (by omega), if_neg (by omega)]
 refine ⟨_, cap, by rw [hl], by rw [hl]; exact hcap, hmax, by rw [hl]; exact hn, fun i => if i = 0 then pv else pf i, fun i => if i = 0 then mv else mf i, fun i hi => ?_, fun hne => ?_⟩
 ·rw [hl] at hi
  rw [hget]
  by_cases e : i = 0
  ·rw [if_pos ⟨e, by omega⟩]
   simp only [if_pos e]
   exact ⟨hp, hm⟩
  ·rw [if_neg (by omega)]
   simp only [if_neg e]
   have hf := h.far i hi
   have h1 := (h.pg i hi).step hc (fun q hq e => hf q (.inl hq) (by subst e; exact own_slice.2 rfl))
   have h2 := (h.mq i hi).step hc (fun q hq e => hf q (.inr hq) (by subst e; exact own_slice.2 rfl))
   exact ⟨h1.read (fun q hq => hA q (h1.lt q hq).1), h2.read (fun q hq => hA q (h2.lt q hq).1)⟩
 ·have hpos : 0 < ls.length := by
   have := List.length_pos_iff.2 hne
   rw [hl] at this; exact this
  have hg := h.os.at
  refine ⟨g, 0, rfl, hA g hg.2.2.1, Nat.lt_of_lt_of_le hg.2.2.2.1 hc.size, fun i hi => ?_⟩
  rw [hl] at hi
  rw [hget, Nat.zero_add]
  by_cases e : i = 0
  ·subst e
   rw [if_pos ⟨rfl, hpos⟩]
   simpa using hx
  ·rw [if_neg (by omega)]
   simp only [if_neg e]
   exact hk i (by omega) hi
end Go.Proofs.YtdgcohoneijleaaGreatDoor
namespace Go.Proofs.YtdgcohoneijleaaGreatDoor
open Go.RowKit
set_option maxHeartbeats 1000000 in
theorem vInts_same (A B : Nat → Prop) (v v' : Value) (l : List Int) (w : World) (h : RI A w v l) (h' : RI B w v' l) :
  Calls Tryz.prog 65 #[v, v'] w (Ret fun r w' => r = .bool true ∧ Chg No w w') := by
 have hL := h.len
 obtain ⟨a, cap, rfl, hcap, hmax, hlen, _, hc⟩ := id h
 obtain ⟨a', cap', rfl, hcap', hmax', hlen', _, hc'⟩ := id h'
 go_enter Tryz.func65, Tryz.ntmps65
 go_wp2_with fail
 go_loopw [5] (fun i wr => ∃ j : Nat, j ≤ l.length ∧ i = .int .i64 j ∧ Chg No w wr) (fun i _ => l.length - (intOf i).toNat)
 case atStart => exact ⟨0, Nat.zero_le _, rfl, Chg.refl No w⟩
 case round =>
  obtain ⟨j, hj, rfl, hch⟩ := hrel
  by_cases hlt : j < l.length
  ·obtain ⟨b, off, rfl, _, hb, hcell⟩ := hc (by intro e; simp [e] at hlt)
   obtain ⟨b', off', rfl, _, hb', hcell'⟩ := hc' (by intro e; simp [e] at hlt)
   have hcl := (hch.cellD b (off + j) hb (fun e => e)).trans (hcell j hlt)
   have hcl' := (hch.cellD b' (off' + j) hb' (fun e => e)).trans (hcell' j hlt)
   obtain ⟨y, hy⟩ : ∃ y, l.getD j 0 = y := ⟨_, rfl⟩
   rw [hy] at hcl hcl'
   have hj0 : (0 : Int) ≤ (j : Int) := Int.natCast_nonneg _
   have hj1 : (j : Int) < (l.length : Int) := by omega
   have hw1 : IntKind.i64.wrap ((j : Int) + 1) = (j : Int) + 1 := IntWalk.i64_in _ (by omega)
   clear hcell hcell' hc hc' hy
   go_wp2_with fail
   go_quiet (fail)
   have hd := (Chg.refl No wr).drewN nq
   have hch := hch.keep hd
   clear hcl hcl'
   generalize wr.drewN nq = W at hd hch ⊢
   go_wp2_with fail
   go_round
   case rel => exact ⟨j + 1, hlt, by go_num, hch⟩
   case measure => simp [intOf]; omega
  ·have hj' : j = l.length := by omega
   subst hj'
   clear hc hc'
   go_wp2_with fail
   go_ret
   exact ⟨_, rfl, rfl, hch⟩
set_option maxHeartbeats 1000000 in
theorem vCache_same (A B : Nat → Prop) (v v' : Value) (c : Ca) (w : World) (h : RC A w v c) (h' : RC B w v' c) :
  Calls Tryz.prog 66 #[v, v'] w (Ret fun r w' => r = .bool true ∧ Chg No w w') := by
 obtain ⟨pv, mv, rfl, hp, hmk⟩ := h
 obtain ⟨pv', mv', rfl, hp', hmk'⟩ := h'
 obtain ⟨pa, pn, pc, rfl⟩ := hp.shape
 obtain ⟨ma, mn, mc, rfl⟩ := hmk.shape
 obtain ⟨pa', pn', pc', rfl⟩ := hp'.shape
 obtain ⟨ma', mn', mc', rfl⟩ := hmk'.shape
 go_enter Tryz.func66, Tryz.ntmps66
 go_wp2_with fail
 refine boxes2 (R := fun W => Calls _ _ _ W _) (fun W hW b0 b1 => ?_)
 refine (vInts_same A B _ _ _ W (hp.keep hW) (hp'.keep hW)).mono ?_
 rintro e w1 ⟨_, rfl, rfl, k1⟩
 have b0 := b0.keep k1
 have b1 := b1.keep k1
 have hW := hW.keep k1
 obtain ⟨c0, c1, c2, c3, c4, _⟩ := id b0
 obtain ⟨d0, d1, d2, d3, d4, _⟩ := id b1
 go_wp2_with fail
 refine (vInts_same A B _ _ _ _ (hmk.keep hW) (hmk'.keep hW)).mono ?_
 rintro e w2 ⟨_, rfl, rfl, k2⟩
 have b0 := b0.keep k2
 have b1 := b1.keep k2
 have hW := hW.keep k2
 clear c0 c1 c2 c3 c4 d0 d1 d2 d3 d4
 obtain ⟨c0, c1, c2, c3, c4, _⟩ := id b0
 obtain ⟨d0, d1, d2, d3, d4, _⟩ := id b1
 go_wp2_with fail
 go_ret
 exact ⟨_, rfl, rfl, hW⟩
end Go.Proofs.YtdgcohoneijleaaGreatDoor
