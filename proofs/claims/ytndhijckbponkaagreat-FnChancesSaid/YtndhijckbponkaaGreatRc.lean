import Derived.Test.YtndhijckbponkaaGreatPkX11
import Derived.ChangeKeysEq
/- chances drawn -/
namespace Go.Proofs.YtndhijckbponkaaGreat
open Go.RowKit

theorem OI.litTake {base : Nat} {w : World} (l : List Int) (cs : Array Value) (m : Nat) (hcs : cs.toList = l.map (Value.int .i64)) (hm : m = l.length) {n : Nat} (hn : n ≤ m) (hb : base ≤ w.heap.size) (hl : l.length ≤ 1000 := by decide) :
    OI base (w.alloc (.cells cs 3)) (.slice (some ⟨w.heap.size, 0, none⟩) n m) (l.take n) := by
  subst hm
  have hlt : (l.take n).length = n := by rw [List.length_take]; omega
  have hsz : cs.size = l.length := by rw [← Array.length_toList, hcs, List.length_map]
  refine ⟨by rw [hlt]; omega, ?_⟩
  rw [hlt]
  refine ⟨by rw [List.length_map, hlt, Nat.mul_one], .inr ⟨w.heap.size, l.length, cs, rfl, hb, heap_alloc_new w _, hn, by unfold maxLen; omega, by rw [hsz, Nat.mul_one], by rw [hcs, Nat.mul_one, List.map_take]⟩⟩
def slN : Value → Nat
  | .slice _ n _ => n
  | _ => 0
theorem bx3z {w : World} {xs ys zs : Array Value} {T U V : TypeId} {R : World → Prop} (h : ∀ W, Chg No w W → W.heap.size = w.heap.size + 1 + 1 + 1 → BoxN W w.heap.size xs.toList → BoxN W (w.heap.size + 1) ys.toList → BoxN W (w.heap.size + 1 + 1) zs.toList → R W) :
    R (((w.alloc (.cells xs T)).alloc (.cells ys U)).alloc (.cells zs V)) :=
  bx3 (R := fun W => W.heap.size = w.heap.size + 1 + 1 + 1 → R W) (fun W k b0 b1 b2 hz => h W k hz b0 b1 b2) (by simp [World.size_alloc])
set_option maxRecDepth 100000 in
set_option maxHeartbeats 4000000 in
theorem chances_any (b B K : Nat) (v : Value) (P : Pr) (w : World) (h : Cur w b B K) (hB : B ≤ w.heap.size) (hP : RPr No w v P) (hs : P.sv.length ≤ 40) (hK : K ≤ 600000000) :
    Calls Tryz.prog 29 #[.pointer (some ⟨b, 0, none⟩), v] w fun e w' => ∃ (cv : Value) (qs : List (List Int)) (ws : List Int), e = .returned cv ∧ RCh (fun q => q < w.heap.size) w' cv qs ws ∧ qs.length ≤ 13 ∧ ws.length ≤ 14 ∧ (∀ q ∈ qs, q.length ≤ 7) ∧ Cur w' b B (K + 1000) ∧ Chg (fun q => q = b) w w' := by
  obtain ⟨m, s⟩ := P
  obtain ⟨mv, sv, rfl, hmv, hsv⟩ := hP
  obtain ⟨ma, mc, rfl⟩ := hmv.shape
  obtain ⟨sa, sc, rfl⟩ := hsv.shape
  have hb := h.lt
  have hbB := h.ltB
  dsimp only at hs hmv hsv ⊢
  obtain ⟨n, hn⟩ : ∃ n, s.length = n := ⟨_, rfl⟩
  rw [hn] at hs ⊢
  have hn0 : (0 : Int) ≤ (n : Int) := Int.natCast_nonneg _
  clear hmv hsv hn
  go_enter Tryz.func29, Tryz.ntmps29
  go_wp2_with fail
  refine bx3z (R := fun W => Calls _ _ _ (W.alloc _) _) (fun W0 k0 hz b0 b1 b2 => ?_)
  have hD0 : CsD b B K w.heap.size (w.heap.size + 1) (w.heap.size + 1 + 1) w W0 [.slice ma m.length mc, .slice sa n sc] (.slice none 0 0) (.slice none 0 0) [] [] No :=
    ⟨h.keep k0, (Chg.refl (fun q => q = b) w).step k0 (fun _ e _ => e.elim), b0, b1, b2, OI.nil _ _, OII.nil _ _, fun _ _ e => e, by omega, rfl⟩
  obtain ⟨G, hG⟩ : ∃ G, w.heap.size = G := ⟨_, rfl⟩
  rw [hG] at hD0 hz ⊢
  obtain ⟨R, hR⟩ : ∃ R, G + 1 = R := ⟨_, rfl⟩
  rw [hR] at hD0 hz ⊢
  obtain ⟨X, hX⟩ : ∃ X, R + 1 = X := ⟨_, rfl⟩
  rw [hX] at hD0 hz ⊢
  have HG := Lib.hid hG
  clear k0 b0 b1 b2 hR hX hG h hB
  refine (among_lit b B K W0 [1, 2, 3, 3, 4, 0, 5] _ _ _ _ _ hz rfl rfl rfl hD0.cur (by omega) (by decide) (by decide)).mono ?_
  rintro e w1 ⟨L, rfl, hL, hc1, k1⟩
  replace hD0 := hD0.call hc1 k1
  have hL5 : 0 ≤ L ∧ L ≤ 5 := by simp only [List.mem_cons, List.not_mem_nil, or_false] at hL; omega
  obtain ⟨LN, rfl⟩ : ∃ LN : Nat, L = (LN : Int) := ⟨L.toNat, by omega⟩
  have hL6 : LN ≤ 5 := by omega
  clear hL hc1 k1 hz hL5
  have q1 := Lib.hid (pick_any b B (K + 2) 16 _ (hD0.cur.keep ((Chg.refl No w1).alloc (.cells #[.int .i64 1, .int .i64 2, .int .i64 3, .int .i64 4, .int .i64 5, .int .i64 6, .int .i64 3, .int .i64 13, .int .i64 0] 3))) (by omega) (by omega))
  have HR : Hid (∀ n, n ≤ 9 → RI (fun q => q = b) (w1.alloc (.cells #[.int .i64 1, .int .i64 2, .int .i64 3, .int .i64 4, .int .i64 5, .int .i64 6, .int .i64 3, .int .i64 13, .int .i64 0] 3)) (.slice (some ⟨w1.heap.size, 0, none⟩) n 9) (([1, 2, 3, 4, 5, 6, 3, 13, 0] : List Int).take n)) := Lib.hid (fun n hn => RI.lit _ w1 [1, 2, 3, 4, 5, 6, 3, 13, 0] _ _ _ n 9 rfl rfl rfl hn (by have := hD0.cur.lt; omega) (by decide))
  go_wp2_with (first
    | (go_at_call 78; refine (q1.out).mono ?_; rintro e w2 ⟨x, rfl, hx0, hx1, _, hc2, hk2⟩; have hx2 := hx1 (by omega); have ht := Int.tdiv_eq_ediv_of_nonneg (a := x) (b := 6) hx0; obtain ⟨y, hy⟩ : ∃ y, x / 6 = y := ⟨_, rfl⟩; have hy0 : 0 ≤ y := (by omega); have hy1 : y ≤ 2 := (by omega); rw [hy] at ht; have hw1 : IntKind.i64.wrap y = y := IntWalk.i64_in _ (by omega); obtain ⟨mm, hm⟩ : ∃ m : Nat, 7 + y = (m : Int) := ⟨(7 + y).toNat, by omega⟩; have hw2 : IntKind.i64.wrap (7 + y) = (mm : Int) := (IntWalk.i64_in _ (by omega)).trans hm; have hm10 : mm ≤ 9 := (by omega); have hm1 : 1 ≤ mm := (by omega); have hsl : ∀ w' : World, (Instr.slice 27 (.slice (some ⟨w1.heap.size, 0, none⟩) 9 9) none (some (.int .i64 (mm : Int))) none).run Tryz.prog w' = .ok (.slice (some ⟨w1.heap.size, 0, none⟩) mm 9) w' := (fun w' => by rw [run_slice_h w' 27 _ 9 9 und_el .i64 _ (by omega) (by omega), run_sz]; simp [Result.andThen, sliced, Addr.add]); clear hm hy)
    | (go_at_call 76; refine (among_any b B (K + 2 + 2) _ (([1, 2, 3, 4, 5, 6, 3, 13, 0] : List Int).take mm) _ hc2 (by omega) ((HR.out mm hm10).step hk2 (fun _ h => h)) (by rw [List.length_take]; simp; omega) (by rw [List.length_take]; simp; omega)).mono ?_; rintro e w3 ⟨r, rfl, hr, hc3, hk3⟩)
    | fail)
  have hr13 : 0 ≤ r ∧ r ≤ 13 := by
    have hr' := List.mem_of_mem_take hr
    simp only [List.mem_cons, List.not_mem_nil, or_false] at hr'
    omega
  have hD := hD0.call hc3 (((Chg.refl (fun q => q = b) w1).alloc _).trans (hk2.trans hk3))
  clear hr hc3 hk3 hsl hw2 hw1 ht hx2 hx1 hx0 hk2 hc2 q1 HR hD0 hy0 hy1 hm10 hm1
  have hN40 : Hid (n ≤ 40 ∧ K ≤ 600000000) := Lib.hid ⟨hs, hK⟩
  clear hs hb hK
  go_loopw [7] (fun z wr => ∃ (r : Int) (qs : List (List Int)) (qv : Value) (F : Nat → Prop), z = .int .i64 r ∧ 0 ≤ r ∧ r ≤ 13 ∧ (qs.length : Int) + r ≤ 13 ∧ Hid (∀ i, i < qs.length → (qs.getD i []).length = LN) ∧ CsD b B (K + 2 + 2 + 2 + 20 * qs.length) G R X w wr [.slice ma m.length mc, .slice sa n sc] (.slice none 0 0) qv [] qs F) (fun z _ => (intOf z).toNat)
  case atStart => exact ⟨r, [], _, _, rfl, hr13.1, hr13.2, by simpa using hr13.2, Lib.hid (fun i hi => absurd hi (Nat.not_lt_zero i)), hD⟩
  case round =>
    clear hD hr13
    obtain ⟨i0, hi0⟩ : ∃ i0, r = i0 := ⟨_, rfl⟩
    rw [hi0]
    clear hi0 r
    obtain ⟨r, qs, qv, F, rfl, hr0, hr1, hqr, HLQ, hD⟩ := hrel
    have hq13 : qs.length ≤ 13 := by omega
    by_cases hrp : 0 < r
    · have hwr1 : IntKind.i64.wrap (r - 1) = r - 1 := IntWalk.i64_in _ (by omega)
      obtain ⟨Z0, hZ0⟩ : ∃ Z, wr.heap.size = Z := ⟨_, rfl⟩
      have ho0 : OI Z0 (wr.alloc (.cells #[] 3)) (.slice (some ⟨Z0, 0, none⟩) 0 0) [] := by
        have := OI.zero (base := Z0) (w := wr) (Nat.le_of_eq hZ0.symm)
        rwa [hZ0] at this
      have hXZ : X + 1 ≤ Z0 := by have := hD.bx.lt; omega
      have HFZ : Hid (∀ q, F q → q < Z0) := Lib.hid (fun q hq => by have := (hD.oq.lt q hq).2; omega)
      have hD1 := hD.keep ((Chg.refl No wr).alloc (.cells #[] 3))
      have HZ1 : Hid (Z0 ≤ (wr.alloc (.cells #[] 3)).heap.size) := Lib.hid (by rw [World.size_alloc]; omega)
      clear hD
      go_wp2_with fail
      clear hZ0
      go_loopw [8] (fun o wi => ∃ l : List Int, l.length ≤ LN ∧ Z0 ≤ wi.heap.size ∧ OI Z0 wi o l ∧ CsD b B (K + 2 + 2 + 2 + 20 * qs.length + 2 * l.length) G R X w wi [.slice ma m.length mc, .slice sa n sc] (.slice none 0 0) qv [] qs F) (fun o _ => LN - slN o)
      case atStart => exact ⟨[], Nat.zero_le _, HZ1.out, ho0, hD1⟩
      case round =>
        clear ho0 hD1
        obtain ⟨l, hl, hzw, ho, hD⟩ := hrel
        clear HZ1
        obtain ⟨oa, oc, rfl, _⟩ := ho.view
        have hl0 : (0 : Int) ≤ (l.length : Int) := Int.natCast_nonneg _
        by_cases hlt : l.length < LN
        · have hl1 : (l.length : Int) < (LN : Int) := by omega
          have hbp := hD.bp
          have p1 := hbp.c 1 _ rfl
          have hl9 : l.length < 17592186044416 := by omega
          have HLL := Lib.hid hl
          go_wp2_with (go_at_call 83; refine (l1Most_any _ _ _).mono ?_; rintro e w' ⟨rfl, rfl⟩)
          refine (pick_any b B (K + 2 + 2 + 2 + 20 * qs.length + 2 * l.length) (max 1 (n : Int)) wr hD.cur (by have := hN40.out; omega) (by have := hN40.out; omega)).mono ?_
          rintro e w9 ⟨y9, rfl, _, _, _, hc9, k9⟩
          have hD9 := hD.call hc9 k9
          have ho9 := ho.step k9 (fun q hq e => by have := (ho.lt q hq).1; have := hD.lt; omega)
          have hz9 : Z0 ≤ w9.heap.size := Nat.le_trans hzw k9.size
          clear hD ho hbp p1 hl hzw hc9 k9
          go_wp2_with (at_builtin; refine wapp1 rfl (.tmp 30) (.tmp 37) rfl ho9 rfl rfl hl9 hz9 ?_)
          intro v2 w10 h2 k2 f2
          have hD2 := hD9.far k2 (fun q hq => (ho9.lt q hq).1) HFZ.out (fun q e => by cases e) (by omega)
          have hz2 : Z0 ≤ w10.heap.size := Nat.le_trans hz9 k2.size
          have hn2 : (l ++ [y9]).length = l.length + 1 := by rw [List.length_append]; rfl
          have HN2 := Lib.hid hn2
          obtain ⟨va2, vc2, rfl, _⟩ := h2.view
          rw [hn2] at h2 ⊢
          clear hD9 ho9 k2 f2 hz9 hn2
          go_wp2_with fail
          go_round
          case rel => exact ⟨l ++ [y9], by rw [HN2.out]; omega, hz2, h2, hD2.more (by rw [HN2.out]; omega)⟩
          case measure => show LN - (l.length + 1) < LN - l.length; omega
        · have hle : l.length = LN := by omega
          have HLE := Lib.hid hle
          rw [hle] at ho ⊢
          replace hD := hD.more (show _ ≤ K + 2 + 2 + 2 + 20 * qs.length + 10 by have := HLE.out; omega)
          clear hl hl0 hlt hle
          have hq0 : (0 : Int) ≤ (qs.length : Int) := Int.natCast_nonneg _
          obtain ⟨va, vc, rfl⟩ := hD.oq.readNo.shape
          have g1 := hD.bx.c 1 _ rfl
          by_cases hqp : 0 < qs.length
          · have hqp1 : (0 : Int) < (qs.length : Int) := by omega
            by_cases hLp : 0 < LN
            · have hLp1 : (0 : Int) < (LN : Int) := by omega
              go_wp2_with fail
              refine (one_any b B (K + 2 + 2 + 2 + 20 * qs.length + 10) 2 wr hD.cur (by have := hN40.out; omega) (by omega)).mono ?_
              rintro e w5 ⟨t, rfl, hc5, k5⟩
              have hD5 := hD.call hc5 k5
              have ho5 := ho.step k5 (fun q hq e => by have := (ho.lt q hq).1; have := hD.lt; omega)
              have hz5 : Z0 ≤ w5.heap.size := Nat.le_trans hzw k5.size
              clear hD ho hzw g1 hc5 k5
              have hD := hD5
              have ho := ho5
              have hzw := hz5
              clear hD5 ho5 hz5
              have g1 := hD.bx.c 1 _ rfl
              cases t
              · skip
                have hlen : qs.length < 1099511627776 := by omega
                have hbz : X + 1 ≤ w5.heap.size := by have := hD.bx.lt; omega
                have hd1 : ∀ q, own (.slice oa LN oc) q → ¬ F q := fun q hq e => by have := (ho.lt q hq).1; have := HFZ.out q e; omega
                have hoX := ho.weak hXZ
                go_wp2_with (at_builtin; refine wappR rfl (.tmp 68) (.tmp 70) rfl hD.oq hoX hd1 rfl rfl hlen hbz ?_)
                intro v3 w7 F3 h3 k3 hF3 hFo
                obtain ⟨hN, hbx3⟩ := hD.app h3 k3 hF3 hFo (fun q _ e => by cases e)
                have g3 := hbx3.c 1 _ rfl
                have f3 := hbx3.fr 1
                obtain ⟨v3a, v3c, rfl⟩ := h3.readNo.shape
                have hL1 : (qs ++ [l]).length = qs.length + 1 := by rw [List.length_append]; rfl
                rw [hL1] at hN ⊢
                have HN := Lib.hid hN
                have HSL := Lib.hid hL1
                clear hN hbx3 h3 k3 hF3 hFo hD ho hL1 hoX hd1 g1
                go_wp2_with fail
                go_round
                case rel => exact ⟨r - 1, qs ++ [l], _, F3, rfl, by omega, by omega, by rw [HSL.out]; omega, Lib.hid (rows_snoc HSL.out HLQ.out HLE.out), by rw [HSL.out]; exact HN.out.more (K' := K + 2 + 2 + 2 + 20 * (qs.length + 1)) (by omega)⟩
                case measure => simp [intOf]; omega
              · obtain ⟨J, hJ⟩ : ∃ J : Nat, (qs.length : Int) - 1 = (J : Int) := ⟨qs.length - 1, by omega⟩
                obtain ⟨LJ, hLJ⟩ : ∃ J : Nat, (LN : Int) - 1 = (J : Int) := ⟨LN - 1, by omega⟩
                have hwJ : IntKind.i64.wrap ((qs.length : Int) - 1) = (J : Int) := (IntWalk.i64_in _ (by omega)).trans hJ
                have hwL : IntKind.i64.wrap ((LN : Int) - 1) = (LJ : Int) := (IntWalk.i64_in _ (by omega)).trans hLJ
                have hJl : J < qs.length := by omega
                have hLl : LJ < LN := by omega
                have hJ0 : (0 : Int) ≤ (J : Int) := Int.natCast_nonneg _
                have hL0 : (0 : Int) ≤ (LJ : Int) := Int.natCast_nonneg _
                have hJ1 : (J : Int) < (qs.length : Int) := by omega
                have hL1 : (LJ : Int) < (LN : Int) := by omega
                obtain ⟨vb, vf, xa, xc, rfl, _, hrc, hrow⟩ := (hD.oq.readNo).row hJl
                have hor := ho.readNo
                rw [← HLE.out] at hor
                obtain ⟨ob, of', rfl, _, hoc⟩ := hor.cellN (j := LJ) (by rw [HLE.out]; exact hLl)
                rw [HLQ.out J hJl] at hrc hrow
                obtain ⟨row, hrw⟩ : ∃ row, qs.getD J [] = row := ⟨_, rfl⟩
                have hrl : row.length = LN := by rw [← hrw]; exact HLQ.out J hJl
                rw [hrw] at hrow
                obtain ⟨y, hy⟩ : ∃ y, l.getD LJ 0 = y := ⟨_, rfl⟩
                rw [hy] at hoc
                have HRL := Lib.hid hrl
                clear hJ hLJ hor hrw hy hrl
                go_wp2_with fail
                refine wp_region_K (S := fun W => W.cell? ⟨X, 1, none⟩ = some (.slice (some ⟨vb, vf, none⟩) qs.length vc) ∧ W.cell? ⟨vb, vf + J, none⟩ = some (.slice xa LN xc) ∧ W.cell? ⟨ob, of' + LJ, none⟩ = some (.int .i64 y)) (k := 16) (by kernel_rfl) ?_
                have kd := drewN0 w5
                replace hD := hD.keep kd
                replace hrow := hrow.keep kd
                have hzq : Z0 ≤ (World.drew w5).heap.size := Nat.le_trans hzw kd.size
                have hS : (World.drew w5).cell? ⟨X, 1, none⟩ = some (.slice (some ⟨vb, vf, none⟩) qs.length vc) ∧ (World.drew w5).cell? ⟨vb, vf + J, none⟩ = some (.slice xa LN xc) ∧ (World.drew w5).cell? ⟨ob, of' + LJ, none⟩ = some (.int .i64 y) := ⟨hD.bx.c 1 _ rfl, hrc, hoc⟩
                clear kd hrc hoc ho hzw g1
                generalize World.drew w5 = WQ at hD hrow hzq hS ⊢
                refine wpAnyK_take0 0 (.pointer (some ⟨X, 1, none⟩)) rfl (by kernel_rfl) (fun _ _ _ h => h) hS rfl (by intro w; go_simp) ?_
                simp only [List.getElem_toArray, List.getElem_cons_zero, Act.put, List.setIfInBounds_toArray, List.set_cons_zero, List.set_cons_succ]
                refine wpAnyK_take 1 (.slice (some ⟨vb, vf, none⟩) qs.length vc) rfl (by kernel_rfl) (fun _ _ _ h => h) hS rfl (by intro w hSw; go_simp) ?_
                simp only [List.getElem_toArray, List.getElem_cons_succ, List.getElem_cons_zero, Act.put, List.setIfInBounds_toArray, List.set_cons_zero, List.set_cons_succ]
                refine wpAnyK_take0 2 (.pointer (some ⟨X, 1, none⟩)) rfl (by kernel_rfl) (fun _ _ _ h => h) hS rfl (by intro w; go_simp) ?_
                simp only [List.getElem_toArray, List.getElem_cons_succ, List.getElem_cons_zero, Act.put, List.setIfInBounds_toArray, List.set_cons_zero, List.set_cons_succ]
                refine wpAnyK_take 3 (.slice (some ⟨vb, vf, none⟩) qs.length vc) rfl (by kernel_rfl) (fun _ _ _ h => h) hS rfl (by intro w hSw; go_simp) ?_
                simp only [List.getElem_toArray, List.getElem_cons_succ, List.getElem_cons_zero, Act.put, List.setIfInBounds_toArray, List.set_cons_zero, List.set_cons_succ]
                refine wpAnyK_take0 4 (.int .i64 (qs.length : Int)) rfl (by kernel_rfl) (fun _ _ _ h => h) hS rfl (by intro w; go_simp) ?_
                simp only [List.getElem_toArray, List.getElem_cons_succ, List.getElem_cons_zero, Act.put, List.setIfInBounds_toArray, List.set_cons_zero, List.set_cons_succ]
                refine wpAnyK_take0 5 (.int .i64 (J : Int)) rfl (by kernel_rfl) (fun _ _ _ h => h) hS rfl (by intro w; go_simp) ?_
                simp only [List.getElem_toArray, List.getElem_cons_succ, List.getElem_cons_zero, Act.put, List.setIfInBounds_toArray, List.set_cons_zero, List.set_cons_succ]
                refine wpAnyK_take0 6 (.pointer (some ⟨vb, vf + J, none⟩)) rfl (by kernel_rfl) (fun _ _ _ h => h) hS rfl (by intro w; go_simp) ?_
                simp only [List.getElem_toArray, List.getElem_cons_succ, List.getElem_cons_zero, Act.put, List.setIfInBounds_toArray, List.set_cons_zero, List.set_cons_succ]
                refine wpAnyK_take 7 (.slice xa LN xc) rfl (by kernel_rfl) (fun _ _ _ h => h) hS rfl (by intro w hSw; go_simp) ?_
                simp only [List.getElem_toArray, List.getElem_cons_succ, List.getElem_cons_zero, Act.put, List.setIfInBounds_toArray, List.set_cons_zero, List.set_cons_succ]
                refine wpAnyK_take0 8 (.int .i64 (LN : Int)) rfl (by kernel_rfl) (fun _ _ _ h => h) hS rfl (by intro w; go_simp) ?_
                simp only [List.getElem_toArray, List.getElem_cons_succ, List.getElem_cons_zero, Act.put, List.setIfInBounds_toArray, List.set_cons_zero, List.set_cons_succ]
                refine wpAnyK_take0 9 (.int .i64 (LJ : Int)) rfl (by kernel_rfl) (fun _ _ _ h => h) hS rfl (by intro w; go_simp) ?_
                simp only [List.getElem_toArray, List.getElem_cons_succ, List.getElem_cons_zero, Act.put, List.setIfInBounds_toArray, List.set_cons_zero, List.set_cons_succ]
                refine wpAnyK_take0 10 (.slice (some ⟨ob, of', none⟩) LN oc) rfl (by kernel_rfl) (fun _ _ _ h => h) hS rfl (by intro w; go_simp) ?_
                simp only [List.getElem_toArray, List.getElem_cons_succ, List.getElem_cons_zero, Act.put, List.setIfInBounds_toArray, List.set_cons_zero, List.set_cons_succ]
                refine wpAnyK_take0 11 (.int .i64 (LN : Int)) rfl (by kernel_rfl) (fun _ _ _ h => h) hS rfl (by intro w; go_simp) ?_
                simp only [List.getElem_toArray, List.getElem_cons_succ, List.getElem_cons_zero, Act.put, List.setIfInBounds_toArray, List.set_cons_zero, List.set_cons_succ]
                refine wpAnyK_take0 12 (.int .i64 (LJ : Int)) rfl (by kernel_rfl) (fun _ _ _ h => h) hS rfl (by intro w; go_simp) ?_
                simp only [List.getElem_toArray, List.getElem_cons_succ, List.getElem_cons_zero, Act.put, List.setIfInBounds_toArray, List.set_cons_zero, List.set_cons_succ]
                refine wpAnyK_take0 13 (.pointer (some ⟨ob, of' + LJ, none⟩)) rfl (by kernel_rfl) (fun _ _ _ h => h) hS rfl (by intro w; go_simp) ?_
                simp only [List.getElem_toArray, List.getElem_cons_succ, List.getElem_cons_zero, Act.put, List.setIfInBounds_toArray, List.set_cons_zero, List.set_cons_succ]
                refine wpAnyK_take 14 (.int .i64 y) rfl (by kernel_rfl) (fun _ _ _ h => h) hS rfl (by intro w hSw; go_simp) ?_
                simp only [List.getElem_toArray, List.getElem_cons_succ, List.getElem_cons_zero, Act.put, List.setIfInBounds_toArray, List.set_cons_zero, List.set_cons_succ]
                refine wpAnyK_1 15 (by kernel_rfl) (wpOpK' rfl rfl ?_)
                intro K0 hK0
                refine ocall (f := 84) (args := #[.slice xa LN xc, .int .i64 (LJ : Int), .int .i64 y]) (by go_simp) (l4With_any No _ row LJ y WQ hrow (by rw [HRL.out]; exact hLl)) (fun v1 W1 h1 => hK0.out _ _ ⟨(hD.keep h1.2).bx.c 1 _ rfl, (h1.2.cellD _ _ (World.block_lt_of_cell? _ _ hS.2.1) (fun e => e)).trans hS.2.1, (h1.2.cellD _ _ (World.block_lt_of_cell? _ _ hS.2.2) (fun e => e)).trans hS.2.2⟩ ?_)
                obtain ⟨ho1, k1⟩ := h1
                replace hD := hD.keep k1
                have ho := ho1.weak hzq
                have HL2 : Hid ((row.set LJ y).length = LN) := Lib.hid (by rw [List.length_set]; exact HRL.out)
                generalize row.set LJ y = l at ho HL2
                replace HLE := HL2
                have hlE := HL2.out
                obtain ⟨oa, oc, rfl, _⟩ := ho.view
                rw [hlE] at ho ⊢
                clear hK0 K0 hS ho1 k1 hrow hlE hzq
                simp only [List.getElem_toArray, List.getElem_cons_succ, List.getElem_cons_zero, Act.put, List.setIfInBounds_toArray, List.set_cons_zero, List.set_cons_succ]
                refine wpAnyK_tail 16 rfl (by kernel_rfl) ?_
                simp only [List.drop_succ_cons, List.drop_zero]
                have g1 := hD.bx.c 1 _ rfl
                have hlen : qs.length < 1099511627776 := by omega
                have hbz : X + 1 ≤ W1.heap.size := by have := hD.bx.lt; omega
                have hd1 : ∀ q, own (.slice oa LN oc) q → ¬ F q := fun q hq e => by have := (ho.lt q hq).1; have := HFZ.out q e; omega
                have hoX := ho.weak hXZ
                go_wp2_with (at_builtin; refine wappR rfl (.tmp 68) (.tmp 70) rfl hD.oq hoX hd1 rfl rfl hlen hbz ?_)
                intro v3 w7 F3 h3 k3 hF3 hFo
                obtain ⟨hN, hbx3⟩ := hD.app h3 k3 hF3 hFo (fun q _ e => by cases e)
                have g3 := hbx3.c 1 _ rfl
                have f3 := hbx3.fr 1
                obtain ⟨v3a, v3c, rfl⟩ := h3.readNo.shape
                have hL1 : (qs ++ [l]).length = qs.length + 1 := by rw [List.length_append]; rfl
                rw [hL1] at hN ⊢
                have HN := Lib.hid hN
                have HSL := Lib.hid hL1
                clear hN hbx3 h3 k3 hF3 hFo hD ho hL1 hoX hd1 g1
                go_wp2_with fail
                go_round
                case rel => exact ⟨r - 1, qs ++ [l], _, F3, rfl, by omega, by omega, by rw [HSL.out]; omega, Lib.hid (rows_snoc HSL.out HLQ.out HLE.out), by rw [HSL.out]; exact HN.out.more (K' := K + 2 + 2 + 2 + 20 * (qs.length + 1)) (by omega)⟩
                case measure => simp [intOf]; omega
            · have hLp1 : ¬ (0 : Int) < (LN : Int) := by omega
              have hlen : qs.length < 1099511627776 := by omega
              have hbz : X + 1 ≤ wr.heap.size := by have := hD.bx.lt; omega
              have hd1 : ∀ q, own (.slice oa LN oc) q → ¬ F q := fun q hq e => by have := (ho.lt q hq).1; have := HFZ.out q e; omega
              have hoX := ho.weak hXZ
              go_wp2_with (at_builtin; refine wappR rfl (.tmp 68) (.tmp 70) rfl hD.oq hoX hd1 rfl rfl hlen hbz ?_)
              intro v3 w7 F3 h3 k3 hF3 hFo
              obtain ⟨hN, hbx3⟩ := hD.app h3 k3 hF3 hFo (fun q _ e => by cases e)
              have g3 := hbx3.c 1 _ rfl
              have f3 := hbx3.fr 1
              obtain ⟨v3a, v3c, rfl⟩ := h3.readNo.shape
              have hL1 : (qs ++ [l]).length = qs.length + 1 := by rw [List.length_append]; rfl
              rw [hL1] at hN ⊢
              have HN := Lib.hid hN
              have HSL := Lib.hid hL1
              clear hN hbx3 h3 k3 hF3 hFo hD ho hL1 hoX hd1 g1
              go_wp2_with fail
              go_round
              case rel => exact ⟨r - 1, qs ++ [l], _, F3, rfl, by omega, by omega, by rw [HSL.out]; omega, Lib.hid (rows_snoc HSL.out HLQ.out HLE.out), by rw [HSL.out]; exact HN.out.more (K' := K + 2 + 2 + 2 + 20 * (qs.length + 1)) (by omega)⟩
              case measure => simp [intOf]; omega
          · have hqp1 : ¬ (0 : Int) < (qs.length : Int) := by omega
            have hlen : qs.length < 1099511627776 := by omega
            have hbz : X + 1 ≤ wr.heap.size := by have := hD.bx.lt; omega
            have hd1 : ∀ q, own (.slice oa LN oc) q → ¬ F q := fun q hq e => by have := (ho.lt q hq).1; have := HFZ.out q e; omega
            have hoX := ho.weak hXZ
            go_wp2_with (at_builtin; refine wappR rfl (.tmp 68) (.tmp 70) rfl hD.oq hoX hd1 rfl rfl hlen hbz ?_)
            intro v3 w7 F3 h3 k3 hF3 hFo
            obtain ⟨hN, hbx3⟩ := hD.app h3 k3 hF3 hFo (fun q _ e => by cases e)
            have g3 := hbx3.c 1 _ rfl
            have f3 := hbx3.fr 1
            obtain ⟨v3a, v3c, rfl⟩ := h3.readNo.shape
            have hL1 : (qs ++ [l]).length = qs.length + 1 := by rw [List.length_append]; rfl
            rw [hL1] at hN ⊢
            have HN := Lib.hid hN
            have HSL := Lib.hid hL1
            clear hN hbx3 h3 k3 hF3 hFo hD ho hL1 hoX hd1 g1
            go_wp2_with fail
            go_round
            case rel => exact ⟨r - 1, qs ++ [l], _, F3, rfl, by omega, by omega, by rw [HSL.out]; omega, Lib.hid (rows_snoc HSL.out HLQ.out HLE.out), by rw [HSL.out]; exact HN.out.more (K' := K + 2 + 2 + 2 + 20 * (qs.length + 1)) (by omega)⟩
            case measure => simp [intOf]; omega
    · have hr00 : r = 0 := by omega
      subst hr00
      have hB : B ≤ wr.heap.size := by have := hD.lt; have := hD.bp.lt; omega
      have hq0 : (0 : Int) ≤ (qs.length : Int) := Int.natCast_nonneg _
      replace hD := hD.more (show _ ≤ K + 500 by omega)
      obtain ⟨va, vc, rfl⟩ := hD.oq.readNo.shape
      have g1 := hD.bx.c 1 _ rfl
      go_wp2_with fail
      refine (weights11_any b B (K + 500) qs.length 1 wr hD.cur hB (by omega) (by have := hN40.out; omega)).mono ?_
      rintro e w5 ⟨wv, ws, rfl, how, hwl, hc5, k5⟩
      obtain ⟨hE, hbx5⟩ := hD.setw hc5 k5 how
      obtain ⟨ua, un, uc, rfl⟩ := how.shape
      replace hE := hE.more (show _ ≤ K + 600 by omega)
      have c0 := hbx5.c 0 _ rfl
      have c1 := hbx5.c 1 _ rfl
      have f0 := hbx5.fr 0
      have HWL : Hid (ws.length ≤ 14) := Lib.hid (by omega)
      have HL7 : Hid (∀ q ∈ qs, q.length ≤ 7) := Lib.hid (fun q hq => by
        obtain ⟨j, hj, rfl⟩ := List.getElem_of_mem hq
        have := HLQ.out j hj
        rw [List.getD_eq_getElem?_getD, List.getElem?_eq_getElem hj, Option.getD_some] at this
        omega)
      by_cases hqp : 0 < qs.length
      · have hqp1 : (0 : Int) < (qs.length : Int) := by omega
        clear hD hc5 k5 how hbx5 g1 hwl
        go_wp2_with fail
        generalize w5.setCell _ _ = w6 at hE ⊢
        clear c0 c1 f0
        refine (pick_any b B (K + 600) 32 w6 hE.cur (by have := hN40.out; omega) (by omega)).mono ?_
        rintro e w7 ⟨x, rfl, _, _, _, hc7, k7⟩
        replace hE := hE.call hc7 k7
        have hbd := hN40.out.2
        clear hc7 k7
        have HR0 : Hid ((qs.getD 0 []).length = LN) := Lib.hid (HLQ.out 0 hqp)
        by_cases h0 : x = 0
        · subst h0
          obtain ⟨g, gc, ra, rc, hv, hg, hgb, hgX, hgc, hgf, hrow, hput⟩ := hE.put0 hqp
          simp only [Value.slice.injEq, true_and] at hv
          obtain ⟨rfl, rfl⟩ := hv
          rw [HR0.out] at hgc hrow
          have hXb : ¬ X = b := by have := hE.lt; omega
          have HS : Hid (∀ W, Chg (fun q => q = b) w7 W → W.cell? ⟨X, 1, none⟩ = some (.slice (some ⟨g, 0, none⟩) qs.length vc) ∧ W.cell? ⟨g, 0, none⟩ = some (.slice ra LN rc)) := Lib.hid (fun W k => ⟨(hE.bx.step k hXb).c 1 _ rfl, (k.cellD g 0 hg hgb).trans hgc⟩)
          have HROW : Hid (∀ W, Chg (fun q => q = b) w7 W → RI No W (.slice ra LN rc) (qs.getD 0 [])) := Lib.hid (fun W k => (hrow.step k (fun q hq e => by have := (hrow.lt q hq).1; have := hE.lt; omega)).readNo)
          have HGF : Hid (∀ W, Chg (fun q => q = b) w7 W → W.frozen? ⟨g, 0, none⟩ = false) := Lib.hid (fun W k => (k.frozenD g 0 hg hgb).trans hgf)
          have hgl : ¬ X = g ∧ ¬ g = X ∧ ¬ R = g ∧ ¬ g = R := by have := hE.lt; omega
          obtain ⟨hgl1, hgl2, hgl3, hgl4⟩ := hgl
          clear hgc hgf hrow
          have hB7 : B ≤ w7.heap.size := by have := hE.lt; have := hE.bx.lt; omega
          go_wp2_with fail
          refine wp_region_K (S := fun W => W.cell? ⟨X, 1, none⟩ = some (.slice (some ⟨g, 0, none⟩) qs.length vc) ∧ W.cell? ⟨g, 0, none⟩ = some (.slice ra LN rc)) (k := 9) (by kernel_rfl) ?_
          have kk : Chg (fun q => q = b) w7 (World.drew w7) := (Chg.refl (fun q => q = b) w7).step (drewN0 _) (fun _ e _ => e.elim)
          have hc := hE.cur.keep (drewN0 w7)
          generalize World.drew w7 = WQ at kk hc ⊢
          have hS := HS.out WQ kk
          refine wpAnyK_take0 0 (.pointer (some ⟨X, 1, none⟩)) rfl (by kernel_rfl) (fun _ _ _ h => h) hS rfl (by intro w; go_simp) ?_
          simp only [List.getElem_toArray, List.getElem_cons_zero, Act.put, List.setIfInBounds_toArray, List.set_cons_zero, List.set_cons_succ]
          refine wpAnyK_take 1 (.slice (some ⟨g, 0, none⟩) qs.length vc) rfl (by kernel_rfl) (fun _ _ _ h => h) hS rfl (by intro w hSw; go_simp) ?_
          simp only [List.getElem_toArray, List.getElem_cons_succ, List.getElem_cons_zero, Act.put, List.setIfInBounds_toArray, List.set_cons_zero, List.set_cons_succ]
          refine wpAnyK_take0 2 (.pointer (some ⟨X, 1, none⟩)) rfl (by kernel_rfl) (fun _ _ _ h => h) hS rfl (by intro w; go_simp) ?_
          simp only [List.getElem_toArray, List.getElem_cons_succ, List.getElem_cons_zero, Act.put, List.setIfInBounds_toArray, List.set_cons_zero, List.set_cons_succ]
          refine wpAnyK_take 3 (.slice (some ⟨g, 0, none⟩) qs.length vc) rfl (by kernel_rfl) (fun _ _ _ h => h) hS rfl (by intro w hSw; go_simp) ?_
          simp only [List.getElem_toArray, List.getElem_cons_succ, List.getElem_cons_zero, Act.put, List.setIfInBounds_toArray, List.set_cons_zero, List.set_cons_succ]
          refine wpAnyK_take0 4 (.pointer (some ⟨g, 0, none⟩)) rfl (by kernel_rfl) (fun _ _ _ h => h) hS rfl (by intro w; go_simp) ?_
          simp only [List.getElem_toArray, List.getElem_cons_succ, List.getElem_cons_zero, Act.put, List.setIfInBounds_toArray, List.set_cons_zero, List.set_cons_succ]
          refine wpAnyK_take 5 (.slice ra LN rc) rfl (by kernel_rfl) (fun _ _ _ h => h) hS rfl (by intro w hSw; go_simp) ?_
          simp only [List.getElem_toArray, List.getElem_cons_succ, List.getElem_cons_zero, Act.put, List.setIfInBounds_toArray, List.set_cons_zero, List.set_cons_succ]
          clear hS
          refine wpAnyK_2 6 7 (by kernel_rfl) (wpOpK' rfl rfl ?_) (wpOpK' rfl rfl ?_)
          · skip
            intro K0 hK0
            refine ocall (f := 86) (args := #[.slice ra LN rc]) (by go_simp) (l1Own_any No _ (qs.getD 0 []) WQ (HROW.out WQ kk)) (fun v1 W1 h1 => hK0.out _ _ (HS.out W1 (kk.step h1.2 (fun _ e _ => e.elim))) ?_)
            obtain ⟨ho1, k1⟩ := h1
            have ho := ho1.weak kk.size
            replace kk := kk.step k1 (fun _ e _ => e.elim)
            replace hc := hc.keep k1
            try replace hlit := hlit.keep k1
            clear hK0 K0 ho1 k1
            simp only [List.getElem_toArray, List.getElem_cons_succ, List.getElem_cons_zero, Act.put, List.setIfInBounds_toArray, List.set_cons_zero, List.set_cons_succ]
            generalize W1 = WQ at *
            refine wpAnyK_1 7 (by kernel_rfl) (wpOpK' rfl rfl ?_)
            intro K0 hK0
            have ka := (Chg.refl No WQ).alloc (.cells #[.int .i64 0] 3)
            have hlit : RI (fun q => q = b) (WQ.alloc (.cells #[.int .i64 0] 3)) (.slice (some ⟨WQ.heap.size, 0, none⟩) 1 1) [0] := RI.lit (fun q => q = b) WQ [0] _ _ _ 1 1 rfl rfl rfl (Nat.le_refl _) (fun e => by have := hc.lt; have e : WQ.heap.size = b := e; omega) (by simp)
            replace kk := kk.step ka (fun _ e _ => e.elim)
            replace hc := hc.keep ka
            try replace ho := ho.keep ka
            unfold Oper.wp execOp
            go_simp
            refine hK0.out _ _ (HS.out _ kk) ?_
            clear hK0 K0 ka
            simp only [List.setIfInBounds_toArray]
            obtain ⟨G0, hG0⟩ : ∃ G, WQ.heap.size = G := ⟨_, rfl⟩
            rw [hG0] at hlit ⊢
            clear hG0
            generalize WQ.alloc (.cells #[.int .i64 0] 3) = WQ at *
            refine wpAnyK_1 8 (by kernel_rfl) (wpOpK' rfl rfl ?_)
            intro K0 hK0
            refine oapp (.tmp 93) (.tmp 94) rfl ho (hlit.weak (fun _ e _ => e.elim)) rfl rfl (by have := HR0.out; rw [HR0.out]; simp; omega) kk.size (fun v2 w2 h2 k2 f2 => ?_)
            have kk2 := kk.step k2 (fun q hq hl => by have := (ho.lt q hq).1; omega)
            have hc2 := hc.step k2 (fun q hq => by have := (ho.lt q hq).1; omega)
            refine hK0.out _ _ (HS.out w2 kk2) ?_
            clear hK0 K0
            simp only [List.getElem_toArray, List.getElem_cons_succ, List.getElem_cons_zero, Act.put, List.setIfInBounds_toArray, List.set_cons_zero, List.set_cons_succ]
            obtain ⟨a2, n2, c2, rfl⟩ := h2.shape
            obtain ⟨F3, hN⟩ := hput _ w2 _ _ hc2 kk2 h2
            replace hE := hE.call hc2 kk2
            have gg := (HS.out w2 kk2).2
            have gf := HGF.out w2 kk2
            have HQ7P : Hid (∀ q ∈ qs.set 0 (qs.getD 0 [] ++ [0]), q.length ≤ 7) := Lib.hid (fun q hq => by
              rcases List.mem_or_eq_of_mem_set hq with e | e
              · exact HL7.out q e
              · rw [e, List.length_append, HR0.out]; simp; omega)
            clear hput ho hlit kk kk2 hc hc2 h2 k2 f2
            refine wpAnyK_tail 9 rfl (by kernel_rfl) ?_
            simp only [List.drop_succ_cons, List.drop_zero]
            have hXR : ¬ X = R := by have := hE.lt; omega
            have hXR' : ¬ R = X := by have := hE.lt; omega
            have x0 := hE.bx.c 0 _ rfl
            have x1 := hE.bx.c 1 _ rfl
            have r0 := hE.br.c 0 _ rfl
            have r1 := hE.br.c 1 _ rfl
            have s0 := hE.br.fr 0
            have s1 := hE.br.fr 1
            have hF := hN.fin
            have z0 := hF.2.c 0 _ rfl
            have z1 := hF.2.c 1 _ rfl
            have HF := Lib.hid hF.1
            clear hE hF hN
            go_wp2_with fail
            refine bodyPost_ret (v := .agg #[.slice ua un uc, .slice (some ⟨g, 0, none⟩) qs.length vc]) (by simp [results, Tryz.results29, go_sem, z0, z1]) rfl ?_
            exact ⟨_, qs.set 0 (qs.getD 0 [] ++ [0]), ws, rfl, by rw [HG.out]; exact HF.out.1, (by rw [List.length_set]; exact hq13), HWL.out, HQ7P.out, HF.out.2.1.more (by omega), HF.out.2.2⟩
          · skip
            intro K0 hK0
            have ka := (Chg.refl No WQ).alloc (.cells #[.int .i64 0] 3)
            have hlit : RI (fun q => q = b) (WQ.alloc (.cells #[.int .i64 0] 3)) (.slice (some ⟨WQ.heap.size, 0, none⟩) 1 1) [0] := RI.lit (fun q => q = b) WQ [0] _ _ _ 1 1 rfl rfl rfl (Nat.le_refl _) (fun e => by have := hc.lt; have e : WQ.heap.size = b := e; omega) (by simp)
            replace kk := kk.step ka (fun _ e _ => e.elim)
            replace hc := hc.keep ka
            try replace ho := ho.keep ka
            unfold Oper.wp execOp
            go_simp
            refine hK0.out _ _ (HS.out _ kk) ?_
            clear hK0 K0 ka
            simp only [List.setIfInBounds_toArray]
            obtain ⟨G0, hG0⟩ : ∃ G, WQ.heap.size = G := ⟨_, rfl⟩
            rw [hG0] at hlit ⊢
            clear hG0
            generalize WQ.alloc (.cells #[.int .i64 0] 3) = WQ at *
            refine wpAnyK_1 6 (by kernel_rfl) (wpOpK' rfl rfl ?_)
            intro K0 hK0
            refine ocall (f := 86) (args := #[.slice ra LN rc]) (by go_simp) (l1Own_any No _ (qs.getD 0 []) WQ (HROW.out WQ kk)) (fun v1 W1 h1 => hK0.out _ _ (HS.out W1 (kk.step h1.2 (fun _ e _ => e.elim))) ?_)
            obtain ⟨ho1, k1⟩ := h1
            have ho := ho1.weak kk.size
            replace kk := kk.step k1 (fun _ e _ => e.elim)
            replace hc := hc.keep k1
            try replace hlit := hlit.keep k1
            clear hK0 K0 ho1 k1
            simp only [List.getElem_toArray, List.getElem_cons_succ, List.getElem_cons_zero, Act.put, List.setIfInBounds_toArray, List.set_cons_zero, List.set_cons_succ]
            generalize W1 = WQ at *
            refine wpAnyK_1 8 (by kernel_rfl) (wpOpK' rfl rfl ?_)
            intro K0 hK0
            refine oapp (.tmp 93) (.tmp 94) rfl ho (hlit.weak (fun _ e _ => e.elim)) rfl rfl (by have := HR0.out; rw [HR0.out]; simp; omega) kk.size (fun v2 w2 h2 k2 f2 => ?_)
            have kk2 := kk.step k2 (fun q hq hl => by have := (ho.lt q hq).1; omega)
            have hc2 := hc.step k2 (fun q hq => by have := (ho.lt q hq).1; omega)
            refine hK0.out _ _ (HS.out w2 kk2) ?_
            clear hK0 K0
            simp only [List.getElem_toArray, List.getElem_cons_succ, List.getElem_cons_zero, Act.put, List.setIfInBounds_toArray, List.set_cons_zero, List.set_cons_succ]
            obtain ⟨a2, n2, c2, rfl⟩ := h2.shape
            obtain ⟨F3, hN⟩ := hput _ w2 _ _ hc2 kk2 h2
            replace hE := hE.call hc2 kk2
            have gg := (HS.out w2 kk2).2
            have gf := HGF.out w2 kk2
            have HQ7P : Hid (∀ q ∈ qs.set 0 (qs.getD 0 [] ++ [0]), q.length ≤ 7) := Lib.hid (fun q hq => by
              rcases List.mem_or_eq_of_mem_set hq with e | e
              · exact HL7.out q e
              · rw [e, List.length_append, HR0.out]; simp; omega)
            clear hput ho hlit kk kk2 hc hc2 h2 k2 f2
            refine wpAnyK_tail 9 rfl (by kernel_rfl) ?_
            simp only [List.drop_succ_cons, List.drop_zero]
            have hXR : ¬ X = R := by have := hE.lt; omega
            have hXR' : ¬ R = X := by have := hE.lt; omega
            have x0 := hE.bx.c 0 _ rfl
            have x1 := hE.bx.c 1 _ rfl
            have r0 := hE.br.c 0 _ rfl
            have r1 := hE.br.c 1 _ rfl
            have s0 := hE.br.fr 0
            have s1 := hE.br.fr 1
            have hF := hN.fin
            have z0 := hF.2.c 0 _ rfl
            have z1 := hF.2.c 1 _ rfl
            have HF := Lib.hid hF.1
            clear hE hF hN
            go_wp2_with fail
            refine bodyPost_ret (v := .agg #[.slice ua un uc, .slice (some ⟨g, 0, none⟩) qs.length vc]) (by simp [results, Tryz.results29, go_sem, z0, z1]) rfl ?_
            exact ⟨_, qs.set 0 (qs.getD 0 [] ++ [0]), ws, rfl, by rw [HG.out]; exact HF.out.1, (by rw [List.length_set]; exact hq13), HWL.out, HQ7P.out, HF.out.2.1.more (by omega), HF.out.2.2⟩
        · by_cases h1 : x = 1
          · subst h1
            obtain ⟨g, gc, ra, rc, hv, hg, hgb, hgX, hgc, hgf, hrow, hput⟩ := hE.put0 hqp
            simp only [Value.slice.injEq, true_and] at hv
            obtain ⟨rfl, rfl⟩ := hv
            rw [HR0.out] at hgc hrow
            have hXb : ¬ X = b := by have := hE.lt; omega
            have HS : Hid (∀ W, Chg (fun q => q = b) w7 W → W.cell? ⟨X, 1, none⟩ = some (.slice (some ⟨g, 0, none⟩) qs.length vc) ∧ W.cell? ⟨g, 0, none⟩ = some (.slice ra LN rc)) := Lib.hid (fun W k => ⟨(hE.bx.step k hXb).c 1 _ rfl, (k.cellD g 0 hg hgb).trans hgc⟩)
            have HROW : Hid (∀ W, Chg (fun q => q = b) w7 W → RI No W (.slice ra LN rc) (qs.getD 0 [])) := Lib.hid (fun W k => (hrow.step k (fun q hq e => by have := (hrow.lt q hq).1; have := hE.lt; omega)).readNo)
            have HGF : Hid (∀ W, Chg (fun q => q = b) w7 W → W.frozen? ⟨g, 0, none⟩ = false) := Lib.hid (fun W k => (k.frozenD g 0 hg hgb).trans hgf)
            have hgl : ¬ X = g ∧ ¬ g = X ∧ ¬ R = g ∧ ¬ g = R := by have := hE.lt; omega
            obtain ⟨hgl1, hgl2, hgl3, hgl4⟩ := hgl
            clear hgc hgf hrow
            have hB7 : B ≤ w7.heap.size := by have := hE.lt; have := hE.bx.lt; omega
            go_wp2_with fail
            refine wp_region_K (S := fun W => W.cell? ⟨X, 1, none⟩ = some (.slice (some ⟨g, 0, none⟩) qs.length vc) ∧ W.cell? ⟨g, 0, none⟩ = some (.slice ra LN rc)) (k := 7) (by kernel_rfl) ?_
            have kk : Chg (fun q => q = b) w7 (World.drew w7) := (Chg.refl (fun q => q = b) w7).step (drewN0 _) (fun _ e _ => e.elim)
            have hc := hE.cur.keep (drewN0 w7)
            generalize World.drew w7 = WQ at kk hc ⊢
            have hS := HS.out WQ kk
            refine wpAnyK_take0 0 (.pointer (some ⟨X, 1, none⟩)) rfl (by kernel_rfl) (fun _ _ _ h => h) hS rfl (by intro w; go_simp) ?_
            simp only [List.getElem_toArray, List.getElem_cons_zero, Act.put, List.setIfInBounds_toArray, List.set_cons_zero, List.set_cons_succ]
            refine wpAnyK_take 1 (.slice (some ⟨g, 0, none⟩) qs.length vc) rfl (by kernel_rfl) (fun _ _ _ h => h) hS rfl (by intro w hSw; go_simp) ?_
            simp only [List.getElem_toArray, List.getElem_cons_succ, List.getElem_cons_zero, Act.put, List.setIfInBounds_toArray, List.set_cons_zero, List.set_cons_succ]
            refine wpAnyK_take0 3 (.pointer (some ⟨b, 0, none⟩)) rfl (by kernel_rfl) (fun _ _ _ h => h) hS rfl (by intro w; go_simp) ?_
            simp only [List.getElem_toArray, List.getElem_cons_succ, List.getElem_cons_zero, Act.put, List.setIfInBounds_toArray, List.set_cons_zero, List.set_cons_succ]
            clear hS
            refine wpAnyK_2 2 4 (by kernel_rfl) (wpOpK' rfl rfl ?_) (wpOpK' rfl rfl ?_)
            · skip
              intro K0 hK0
              have ka := (Chg.refl No WQ).alloc (.cells #[.int .i64 0, .int .i64 0, .int .i64 0, .int .i64 0, .int .i64 0, .int .i64 0, .int .i64 0] 3)
              have hz : ∀ Y, Y ≤ 7 → OI w7.heap.size (WQ.alloc (.cells #[.int .i64 0, .int .i64 0, .int .i64 0, .int .i64 0, .int .i64 0, .int .i64 0, .int .i64 0] 3)) (.slice (some ⟨WQ.heap.size, 0, none⟩) Y 7) (([0, 0, 0, 0, 0, 0, 0] : List Int).take Y) := fun Y hY => OI.litTake [0, 0, 0, 0, 0, 0, 0] _ 7 rfl rfl hY kk.size
              replace kk := kk.step ka (fun _ e _ => e.elim)
              replace hc := hc.keep ka
              unfold Oper.wp execOp
              go_simp
              refine hK0.out _ _ (HS.out _ kk) ?_
              clear hK0 K0 ka
              simp only [List.setIfInBounds_toArray]
              obtain ⟨G0, hG0⟩ : ∃ G, WQ.heap.size = G := ⟨_, rfl⟩
              rw [hG0] at hz ⊢
              clear hG0
              generalize WQ.alloc (.cells #[.int .i64 0, .int .i64 0, .int .i64 0, .int .i64 0, .int .i64 0, .int .i64 0, .int .i64 0] 3) = WQ at *
              refine wpAnyK_1 4 (by kernel_rfl) (wpOpK' rfl rfl ?_)
              intro K0 hK0
              refine ocallE (f := 78) (args := #[.pointer (some ⟨b, 0, none⟩), .int .i64 3]) (φ := fun v W' => ∃ x : Int, v = .int .i64 x ∧ 0 ≤ x ∧ x ≤ 2 ∧ Cur W' b B (K + 600 + 2 + 2) ∧ Chg (fun q => q = b) WQ W') (by go_simp) ((pick_any b B (K + 600 + 2) 3 WQ hc (by omega) (by omega)).mono (fun e W' ⟨x, h1, h2, h3, _, h5, h6⟩ => ⟨_, h1, x, rfl, h2, by have := h3 (by omega); omega, h5, h6⟩)) (fun v2 W2 h2 => hK0.out _ _ (HS.out W2 (by obtain ⟨x, _, _, _, _, q2⟩ := h2; exact kk.trans q2)) ?_)
              obtain ⟨x9, rfl, hx0, hx1, hc2, k2⟩ := h2
              replace kk := kk.trans k2
              try replace hz := fun Y hY => (hz Y hY).step k2 (fun q hq e => by have := ((hz Y hY).lt q hq).1; omega)
              replace hc := hc2
              clear hK0 K0 hc2 k2
              simp only [List.getElem_toArray, List.getElem_cons_succ, List.getElem_cons_zero, Act.put, List.setIfInBounds_toArray, List.set_cons_zero, List.set_cons_succ]
              generalize W2 = WQ at *
              obtain ⟨Y, hY⟩ : ∃ Y : Nat, 5 + x9 = (Y : Int) := ⟨(5 + x9).toNat, by omega⟩
              have hw2 : IntKind.i64.wrap (5 + x9) = (Y : Int) := (IntWalk.i64_in _ (by omega)).trans hY
              have hY0 : (0 : Int) ≤ (Y : Int) := by omega
              have hY6 : (Y : Int) ≤ 7 := by omega
              have hYn : Y ≤ 7 := by omega
              clear hY hx0 hx1
              have hS := HS.out WQ kk
              refine wpAnyK_take0 5 (.int .i64 (Y : Int)) rfl (by kernel_rfl) (fun _ _ _ h => h) hS rfl (by intro w; go_simp) ?_
              simp only [List.getElem_toArray, List.getElem_cons_succ, List.getElem_cons_zero, Act.put, List.setIfInBounds_toArray, List.set_cons_zero, List.set_cons_succ]
              refine wpAnyK_take0 6 (.slice (some ⟨G0, 0, none⟩) Y 7) rfl (by kernel_rfl) (fun _ _ _ h => h) hS rfl (by intro w; go_simp) ?_
              simp only [List.getElem_toArray, List.getElem_cons_succ, List.getElem_cons_zero, Act.put, List.setIfInBounds_toArray, List.set_cons_zero, List.set_cons_succ]
              refine wpAnyK_tail 7 rfl (by kernel_rfl) ?_
              simp only [List.drop_succ_cons, List.drop_zero]
              obtain ⟨F3, hN⟩ := hput _ WQ _ _ hc kk (hz Y hYn)
              replace hE := hE.call hc kk
              have gg := (HS.out WQ kk).2
              have gf := HGF.out WQ kk
              have HQ7P : Hid (∀ q ∈ qs.set 0 (([0, 0, 0, 0, 0, 0, 0] : List Int).take Y), q.length ≤ 7) := Lib.hid (fun q hq => by
                rcases List.mem_or_eq_of_mem_set hq with e | e
                · exact HL7.out q e
                · rw [e, List.length_take]; exact Nat.le_trans (Nat.min_le_right _ _) (by simp))
              clear hput hz kk hc
              have hXR : ¬ X = R := by have := hE.lt; omega
              have hXR' : ¬ R = X := by have := hE.lt; omega
              have x0 := hE.bx.c 0 _ rfl
              have x1 := hE.bx.c 1 _ rfl
              have r0 := hE.br.c 0 _ rfl
              have r1 := hE.br.c 1 _ rfl
              have s0 := hE.br.fr 0
              have s1 := hE.br.fr 1
              have hF := hN.fin
              have z0 := hF.2.c 0 _ rfl
              have z1 := hF.2.c 1 _ rfl
              have HF := Lib.hid hF.1
              clear hE hF hN
              go_wp2_with fail
              refine bodyPost_ret (v := .agg #[.slice ua un uc, .slice (some ⟨g, 0, none⟩) qs.length vc]) (by simp [results, Tryz.results29, go_sem, z0, z1]) rfl ?_
              exact ⟨_, qs.set 0 (([0, 0, 0, 0, 0, 0, 0] : List Int).take Y), ws, rfl, by rw [HG.out]; exact HF.out.1, (by rw [List.length_set]; exact hq13), HWL.out, HQ7P.out, HF.out.2.1.more (by omega), HF.out.2.2⟩
            · skip
              intro K0 hK0
              refine ocallE (f := 78) (args := #[.pointer (some ⟨b, 0, none⟩), .int .i64 3]) (φ := fun v W' => ∃ x : Int, v = .int .i64 x ∧ 0 ≤ x ∧ x ≤ 2 ∧ Cur W' b B (K + 600 + 2 + 2) ∧ Chg (fun q => q = b) WQ W') (by go_simp) ((pick_any b B (K + 600 + 2) 3 WQ hc (by omega) (by omega)).mono (fun e W' ⟨x, h1, h2, h3, _, h5, h6⟩ => ⟨_, h1, x, rfl, h2, by have := h3 (by omega); omega, h5, h6⟩)) (fun v2 W2 h2 => hK0.out _ _ (HS.out W2 (by obtain ⟨x, _, _, _, _, q2⟩ := h2; exact kk.trans q2)) ?_)
              obtain ⟨x9, rfl, hx0, hx1, hc2, k2⟩ := h2
              replace kk := kk.trans k2
              try replace hz := fun Y hY => (hz Y hY).step k2 (fun q hq e => by have := ((hz Y hY).lt q hq).1; omega)
              replace hc := hc2
              clear hK0 K0 hc2 k2
              simp only [List.getElem_toArray, List.getElem_cons_succ, List.getElem_cons_zero, Act.put, List.setIfInBounds_toArray, List.set_cons_zero, List.set_cons_succ]
              generalize W2 = WQ at *
              obtain ⟨Y, hY⟩ : ∃ Y : Nat, 5 + x9 = (Y : Int) := ⟨(5 + x9).toNat, by omega⟩
              have hw2 : IntKind.i64.wrap (5 + x9) = (Y : Int) := (IntWalk.i64_in _ (by omega)).trans hY
              have hY0 : (0 : Int) ≤ (Y : Int) := by omega
              have hY6 : (Y : Int) ≤ 7 := by omega
              have hYn : Y ≤ 7 := by omega
              clear hY hx0 hx1
              have hS := HS.out WQ kk
              refine wpAnyK_take0 5 (.int .i64 (Y : Int)) rfl (by kernel_rfl) (fun _ _ _ h => h) hS rfl (by intro w; go_simp) ?_
              simp only [List.getElem_toArray, List.getElem_cons_succ, List.getElem_cons_zero, Act.put, List.setIfInBounds_toArray, List.set_cons_zero, List.set_cons_succ]
              clear hS
              refine wpAnyK_1 2 (by kernel_rfl) (wpOpK' rfl rfl ?_)
              intro K0 hK0
              have ka := (Chg.refl No WQ).alloc (.cells #[.int .i64 0, .int .i64 0, .int .i64 0, .int .i64 0, .int .i64 0, .int .i64 0, .int .i64 0] 3)
              have hz : ∀ Y, Y ≤ 7 → OI w7.heap.size (WQ.alloc (.cells #[.int .i64 0, .int .i64 0, .int .i64 0, .int .i64 0, .int .i64 0, .int .i64 0, .int .i64 0] 3)) (.slice (some ⟨WQ.heap.size, 0, none⟩) Y 7) (([0, 0, 0, 0, 0, 0, 0] : List Int).take Y) := fun Y hY => OI.litTake [0, 0, 0, 0, 0, 0, 0] _ 7 rfl rfl hY kk.size
              replace kk := kk.step ka (fun _ e _ => e.elim)
              replace hc := hc.keep ka
              unfold Oper.wp execOp
              go_simp
              refine hK0.out _ _ (HS.out _ kk) ?_
              clear hK0 K0 ka
              simp only [List.setIfInBounds_toArray]
              obtain ⟨G0, hG0⟩ : ∃ G, WQ.heap.size = G := ⟨_, rfl⟩
              rw [hG0] at hz ⊢
              clear hG0
              generalize WQ.alloc (.cells #[.int .i64 0, .int .i64 0, .int .i64 0, .int .i64 0, .int .i64 0, .int .i64 0, .int .i64 0] 3) = WQ at *
              have hS := HS.out WQ kk
              refine wpAnyK_take0 6 (.slice (some ⟨G0, 0, none⟩) Y 7) rfl (by kernel_rfl) (fun _ _ _ h => h) hS rfl (by intro w; go_simp) ?_
              simp only [List.getElem_toArray, List.getElem_cons_succ, List.getElem_cons_zero, Act.put, List.setIfInBounds_toArray, List.set_cons_zero, List.set_cons_succ]
              refine wpAnyK_tail 7 rfl (by kernel_rfl) ?_
              simp only [List.drop_succ_cons, List.drop_zero]
              obtain ⟨F3, hN⟩ := hput _ WQ _ _ hc kk (hz Y hYn)
              replace hE := hE.call hc kk
              have gg := (HS.out WQ kk).2
              have gf := HGF.out WQ kk
              have HQ7P : Hid (∀ q ∈ qs.set 0 (([0, 0, 0, 0, 0, 0, 0] : List Int).take Y), q.length ≤ 7) := Lib.hid (fun q hq => by
                rcases List.mem_or_eq_of_mem_set hq with e | e
                · exact HL7.out q e
                · rw [e, List.length_take]; exact Nat.le_trans (Nat.min_le_right _ _) (by simp))
              clear hput hz kk hc
              have hXR : ¬ X = R := by have := hE.lt; omega
              have hXR' : ¬ R = X := by have := hE.lt; omega
              have x0 := hE.bx.c 0 _ rfl
              have x1 := hE.bx.c 1 _ rfl
              have r0 := hE.br.c 0 _ rfl
              have r1 := hE.br.c 1 _ rfl
              have s0 := hE.br.fr 0
              have s1 := hE.br.fr 1
              have hF := hN.fin
              have z0 := hF.2.c 0 _ rfl
              have z1 := hF.2.c 1 _ rfl
              have HF := Lib.hid hF.1
              clear hE hF hN
              go_wp2_with fail
              refine bodyPost_ret (v := .agg #[.slice ua un uc, .slice (some ⟨g, 0, none⟩) qs.length vc]) (by simp [results, Tryz.results29, go_sem, z0, z1]) rfl ?_
              exact ⟨_, qs.set 0 (([0, 0, 0, 0, 0, 0, 0] : List Int).take Y), ws, rfl, by rw [HG.out]; exact HF.out.1, (by rw [List.length_set]; exact hq13), HWL.out, HQ7P.out, HF.out.2.1.more (by omega), HF.out.2.2⟩
          · by_cases h2 : x = 2
            · subst h2
              obtain ⟨g, gc, ra, rc, hv, hg, hgb, hgX, hgc, hgf, hrow, hput⟩ := hE.put0 hqp
              simp only [Value.slice.injEq, true_and] at hv
              obtain ⟨rfl, rfl⟩ := hv
              rw [HR0.out] at hgc hrow
              have hXb : ¬ X = b := by have := hE.lt; omega
              have HS : Hid (∀ W, Chg (fun q => q = b) w7 W → W.cell? ⟨X, 1, none⟩ = some (.slice (some ⟨g, 0, none⟩) qs.length vc) ∧ W.cell? ⟨g, 0, none⟩ = some (.slice ra LN rc)) := Lib.hid (fun W k => ⟨(hE.bx.step k hXb).c 1 _ rfl, (k.cellD g 0 hg hgb).trans hgc⟩)
              have HROW : Hid (∀ W, Chg (fun q => q = b) w7 W → RI No W (.slice ra LN rc) (qs.getD 0 [])) := Lib.hid (fun W k => (hrow.step k (fun q hq e => by have := (hrow.lt q hq).1; have := hE.lt; omega)).readNo)
              have HGF : Hid (∀ W, Chg (fun q => q = b) w7 W → W.frozen? ⟨g, 0, none⟩ = false) := Lib.hid (fun W k => (k.frozenD g 0 hg hgb).trans hgf)
              have hgl : ¬ X = g ∧ ¬ g = X ∧ ¬ R = g ∧ ¬ g = R := by have := hE.lt; omega
              obtain ⟨hgl1, hgl2, hgl3, hgl4⟩ := hgl
              clear hgc hgf hrow
              have hB7 : B ≤ w7.heap.size := by have := hE.lt; have := hE.bx.lt; omega
              go_wp2_with fail
              refine wp_region_K (S := fun W => W.cell? ⟨X, 1, none⟩ = some (.slice (some ⟨g, 0, none⟩) qs.length vc) ∧ W.cell? ⟨g, 0, none⟩ = some (.slice ra LN rc)) (k := 12) (by kernel_rfl) ?_
              have kk : Chg (fun q => q = b) w7 (World.drew w7) := (Chg.refl (fun q => q = b) w7).step (drewN0 _) (fun _ e _ => e.elim)
              have hc := hE.cur.keep (drewN0 w7)
              generalize World.drew w7 = WQ at kk hc ⊢
              have hS := HS.out WQ kk
              refine wpAnyK_take0 0 (.pointer (some ⟨X, 1, none⟩)) rfl (by kernel_rfl) (fun _ _ _ h => h) hS rfl (by intro w; go_simp) ?_
              simp only [List.getElem_toArray, List.getElem_cons_zero, Act.put, List.setIfInBounds_toArray, List.set_cons_zero, List.set_cons_succ]
              refine wpAnyK_take 1 (.slice (some ⟨g, 0, none⟩) qs.length vc) rfl (by kernel_rfl) (fun _ _ _ h => h) hS rfl (by intro w hSw; go_simp) ?_
              simp only [List.getElem_toArray, List.getElem_cons_succ, List.getElem_cons_zero, Act.put, List.setIfInBounds_toArray, List.set_cons_zero, List.set_cons_succ]
              refine wpAnyK_take0 2 (.pointer (some ⟨X, 1, none⟩)) rfl (by kernel_rfl) (fun _ _ _ h => h) hS rfl (by intro w; go_simp) ?_
              simp only [List.getElem_toArray, List.getElem_cons_succ, List.getElem_cons_zero, Act.put, List.setIfInBounds_toArray, List.set_cons_zero, List.set_cons_succ]
              refine wpAnyK_take 3 (.slice (some ⟨g, 0, none⟩) qs.length vc) rfl (by kernel_rfl) (fun _ _ _ h => h) hS rfl (by intro w hSw; go_simp) ?_
              simp only [List.getElem_toArray, List.getElem_cons_succ, List.getElem_cons_zero, Act.put, List.setIfInBounds_toArray, List.set_cons_zero, List.set_cons_succ]
              refine wpAnyK_take0 4 (.pointer (some ⟨g, 0, none⟩)) rfl (by kernel_rfl) (fun _ _ _ h => h) hS rfl (by intro w; go_simp) ?_
              simp only [List.getElem_toArray, List.getElem_cons_succ, List.getElem_cons_zero, Act.put, List.setIfInBounds_toArray, List.set_cons_zero, List.set_cons_succ]
              refine wpAnyK_take 5 (.slice ra LN rc) rfl (by kernel_rfl) (fun _ _ _ h => h) hS rfl (by intro w hSw; go_simp) ?_
              simp only [List.getElem_toArray, List.getElem_cons_succ, List.getElem_cons_zero, Act.put, List.setIfInBounds_toArray, List.set_cons_zero, List.set_cons_succ]
              refine wpAnyK_take0 7 (.pointer (some ⟨b, 0, none⟩)) rfl (by kernel_rfl) (fun _ _ _ h => h) hS rfl (by intro w; go_simp) ?_
              simp only [List.getElem_toArray, List.getElem_cons_succ, List.getElem_cons_zero, Act.put, List.setIfInBounds_toArray, List.set_cons_zero, List.set_cons_succ]
              clear hS
              refine wpAnyK_2 6 8 (by kernel_rfl) (wpOpK' rfl rfl ?_) (wpOpK' rfl rfl ?_)
              · skip
                intro K0 hK0
                refine ocall (f := 86) (args := #[.slice ra LN rc]) (by go_simp) (l1Own_any No _ (qs.getD 0 []) WQ (HROW.out WQ kk)) (fun v1 W1 h1 => hK0.out _ _ (HS.out W1 (kk.step h1.2 (fun _ e _ => e.elim))) ?_)
                obtain ⟨ho1, k1⟩ := h1
                have ho := ho1.weak kk.size
                replace kk := kk.step k1 (fun _ e _ => e.elim)
                replace hc := hc.keep k1
                try replace hlit := hlit.keep k1
                clear hK0 K0 ho1 k1
                simp only [List.getElem_toArray, List.getElem_cons_succ, List.getElem_cons_zero, Act.put, List.setIfInBounds_toArray, List.set_cons_zero, List.set_cons_succ]
                generalize W1 = WQ at *
                refine wpAnyK_1 8 (by kernel_rfl) (wpOpK' rfl rfl ?_)
                intro K0 hK0
                have ka := (Chg.refl No WQ).alloc (.cells #[.int .i64 (-1), .int .i64 4] 3)
                have hlit : RI (fun q => q = b) (WQ.alloc (.cells #[.int .i64 (-1), .int .i64 4] 3)) (.slice (some ⟨WQ.heap.size, 0, none⟩) 2 2) [-1, 4] := RI.lit (fun q => q = b) WQ [-1, 4] _ _ _ 2 2 rfl rfl rfl (Nat.le_refl _) (fun e => by have := hc.lt; have e : WQ.heap.size = b := e; omega) (by simp)
                replace kk := kk.step ka (fun _ e _ => e.elim)
                replace hc := hc.keep ka
                try replace ho := ho.keep ka
                unfold Oper.wp execOp
                go_simp
                refine hK0.out _ _ (HS.out _ kk) ?_
                clear hK0 K0 ka
                simp only [List.setIfInBounds_toArray]
                obtain ⟨G0, hG0⟩ : ∃ G, WQ.heap.size = G := ⟨_, rfl⟩
                rw [hG0] at hlit ⊢
                clear hG0
                generalize WQ.alloc (.cells #[.int .i64 (-1), .int .i64 4] 3) = WQ at *
                refine wpAnyK_1 9 (by kernel_rfl) (wpOpK' rfl rfl ?_)
                intro K0 hK0
                refine ocallE (f := 76) (args := #[.pointer (some ⟨b, 0, none⟩), .slice (some ⟨G0, 0, none⟩) 2 2]) (φ := fun v W' => ∃ y : Int, v = .int .i64 y ∧ Cur W' b B (K + 600 + 2 + 2) ∧ Chg (fun q => q = b) WQ W') (by go_simp) ((among_any b B (K + 600 + 2) _ _ WQ hc (by omega) hlit (by decide) (by decide)).mono (fun e W' ⟨x, h1, _, h5, h6⟩ => ⟨_, h1, x, rfl, h5, h6⟩)) (fun v2 W2 h2 => hK0.out _ _ (HS.out W2 (by obtain ⟨x, _, _, q2⟩ := h2; exact kk.trans q2)) ?_)
                obtain ⟨y9, rfl, hc2, k2⟩ := h2
                replace kk := kk.trans k2
                replace ho := ho.step k2 (fun q hq e => by have := (ho.lt q hq).1; omega)
                replace hc := hc2
                clear hK0 K0 hlit hc2 k2
                simp only [List.getElem_toArray, List.getElem_cons_succ, List.getElem_cons_zero, Act.put, List.setIfInBounds_toArray, List.set_cons_zero, List.set_cons_succ]
                generalize W2 = WQ at *
                refine wpAnyK_1 10 (by kernel_rfl) (wpOpK' rfl rfl ?_)
                intro K0 hK0
                have ka := (Chg.refl No WQ).alloc (.cells #[.int .i64 y9] 3)
                have hlit : RI (fun q => q = b) (WQ.alloc (.cells #[.int .i64 y9] 3)) (.slice (some ⟨WQ.heap.size, 0, none⟩) 1 1) [y9] := RI.lit (fun q => q = b) WQ [y9] _ _ _ 1 1 rfl rfl rfl (Nat.le_refl _) (fun e => by have := hc.lt; have e : WQ.heap.size = b := e; omega) (by simp)
                replace kk := kk.step ka (fun _ e _ => e.elim)
                replace hc := hc.keep ka
                try replace ho := ho.keep ka
                unfold Oper.wp execOp
                go_simp
                refine hK0.out _ _ (HS.out _ kk) ?_
                clear hK0 K0 ka
                simp only [List.setIfInBounds_toArray]
                obtain ⟨G0, hG0⟩ : ∃ G, WQ.heap.size = G := ⟨_, rfl⟩
                rw [hG0] at hlit ⊢
                clear hG0
                generalize WQ.alloc (.cells #[.int .i64 y9] 3) = WQ at *
                refine wpAnyK_1 11 (by kernel_rfl) (wpOpK' rfl rfl ?_)
                intro K0 hK0
                refine oapp (.tmp 115) (.tmp 119) rfl ho (hlit.weak (fun _ e _ => e.elim)) rfl rfl (by have := HR0.out; rw [HR0.out]; simp; omega) kk.size (fun v2 w2 h2 k2 f2 => ?_)
                have kk2 := kk.step k2 (fun q hq hl => by have := (ho.lt q hq).1; omega)
                have hc2 := hc.step k2 (fun q hq => by have := (ho.lt q hq).1; omega)
                refine hK0.out _ _ (HS.out w2 kk2) ?_
                clear hK0 K0
                simp only [List.getElem_toArray, List.getElem_cons_succ, List.getElem_cons_zero, Act.put, List.setIfInBounds_toArray, List.set_cons_zero, List.set_cons_succ]
                obtain ⟨a2, n2, c2, rfl⟩ := h2.shape
                obtain ⟨F3, hN⟩ := hput _ w2 _ _ hc2 kk2 h2
                replace hE := hE.call hc2 kk2
                have gg := (HS.out w2 kk2).2
                have gf := HGF.out w2 kk2
                have HQ7P : Hid (∀ q ∈ qs.set 0 (qs.getD 0 [] ++ [y9]), q.length ≤ 7) := Lib.hid (fun q hq => by
                  rcases List.mem_or_eq_of_mem_set hq with e | e
                  · exact HL7.out q e
                  · rw [e, List.length_append, HR0.out]; simp; omega)
                clear hput ho hlit kk kk2 hc hc2 h2 k2 f2
                refine wpAnyK_tail 12 rfl (by kernel_rfl) ?_
                simp only [List.drop_succ_cons, List.drop_zero]
                have hXR : ¬ X = R := by have := hE.lt; omega
                have hXR' : ¬ R = X := by have := hE.lt; omega
                have x0 := hE.bx.c 0 _ rfl
                have x1 := hE.bx.c 1 _ rfl
                have r0 := hE.br.c 0 _ rfl
                have r1 := hE.br.c 1 _ rfl
                have s0 := hE.br.fr 0
                have s1 := hE.br.fr 1
                have hF := hN.fin
                have z0 := hF.2.c 0 _ rfl
                have z1 := hF.2.c 1 _ rfl
                have HF := Lib.hid hF.1
                clear hE hF hN
                go_wp2_with fail
                refine bodyPost_ret (v := .agg #[.slice ua un uc, .slice (some ⟨g, 0, none⟩) qs.length vc]) (by simp [results, Tryz.results29, go_sem, z0, z1]) rfl ?_
                exact ⟨_, qs.set 0 (qs.getD 0 [] ++ [y9]), ws, rfl, by rw [HG.out]; exact HF.out.1, (by rw [List.length_set]; exact hq13), HWL.out, HQ7P.out, HF.out.2.1.more (by omega), HF.out.2.2⟩
              · skip
                intro K0 hK0
                have ka := (Chg.refl No WQ).alloc (.cells #[.int .i64 (-1), .int .i64 4] 3)
                have hlit : RI (fun q => q = b) (WQ.alloc (.cells #[.int .i64 (-1), .int .i64 4] 3)) (.slice (some ⟨WQ.heap.size, 0, none⟩) 2 2) [-1, 4] := RI.lit (fun q => q = b) WQ [-1, 4] _ _ _ 2 2 rfl rfl rfl (Nat.le_refl _) (fun e => by have := hc.lt; have e : WQ.heap.size = b := e; omega) (by simp)
                replace kk := kk.step ka (fun _ e _ => e.elim)
                replace hc := hc.keep ka
                try replace ho := ho.keep ka
                unfold Oper.wp execOp
                go_simp
                refine hK0.out _ _ (HS.out _ kk) ?_
                clear hK0 K0 ka
                simp only [List.setIfInBounds_toArray]
                obtain ⟨G0, hG0⟩ : ∃ G, WQ.heap.size = G := ⟨_, rfl⟩
                rw [hG0] at hlit ⊢
                clear hG0
                generalize WQ.alloc (.cells #[.int .i64 (-1), .int .i64 4] 3) = WQ at *
                refine wpAnyK_1 6 (by kernel_rfl) (wpOpK' rfl rfl ?_)
                intro K0 hK0
                refine ocall (f := 86) (args := #[.slice ra LN rc]) (by go_simp) (l1Own_any No _ (qs.getD 0 []) WQ (HROW.out WQ kk)) (fun v1 W1 h1 => hK0.out _ _ (HS.out W1 (kk.step h1.2 (fun _ e _ => e.elim))) ?_)
                obtain ⟨ho1, k1⟩ := h1
                have ho := ho1.weak kk.size
                replace kk := kk.step k1 (fun _ e _ => e.elim)
                replace hc := hc.keep k1
                try replace hlit := hlit.keep k1
                clear hK0 K0 ho1 k1
                simp only [List.getElem_toArray, List.getElem_cons_succ, List.getElem_cons_zero, Act.put, List.setIfInBounds_toArray, List.set_cons_zero, List.set_cons_succ]
                generalize W1 = WQ at *
                refine wpAnyK_1 9 (by kernel_rfl) (wpOpK' rfl rfl ?_)
                intro K0 hK0
                refine ocallE (f := 76) (args := #[.pointer (some ⟨b, 0, none⟩), .slice (some ⟨G0, 0, none⟩) 2 2]) (φ := fun v W' => ∃ y : Int, v = .int .i64 y ∧ Cur W' b B (K + 600 + 2 + 2) ∧ Chg (fun q => q = b) WQ W') (by go_simp) ((among_any b B (K + 600 + 2) _ _ WQ hc (by omega) hlit (by decide) (by decide)).mono (fun e W' ⟨x, h1, _, h5, h6⟩ => ⟨_, h1, x, rfl, h5, h6⟩)) (fun v2 W2 h2 => hK0.out _ _ (HS.out W2 (by obtain ⟨x, _, _, q2⟩ := h2; exact kk.trans q2)) ?_)
                obtain ⟨y9, rfl, hc2, k2⟩ := h2
                replace kk := kk.trans k2
                replace ho := ho.step k2 (fun q hq e => by have := (ho.lt q hq).1; omega)
                replace hc := hc2
                clear hK0 K0 hlit hc2 k2
                simp only [List.getElem_toArray, List.getElem_cons_succ, List.getElem_cons_zero, Act.put, List.setIfInBounds_toArray, List.set_cons_zero, List.set_cons_succ]
                generalize W2 = WQ at *
                refine wpAnyK_1 10 (by kernel_rfl) (wpOpK' rfl rfl ?_)
                intro K0 hK0
                have ka := (Chg.refl No WQ).alloc (.cells #[.int .i64 y9] 3)
                have hlit : RI (fun q => q = b) (WQ.alloc (.cells #[.int .i64 y9] 3)) (.slice (some ⟨WQ.heap.size, 0, none⟩) 1 1) [y9] := RI.lit (fun q => q = b) WQ [y9] _ _ _ 1 1 rfl rfl rfl (Nat.le_refl _) (fun e => by have := hc.lt; have e : WQ.heap.size = b := e; omega) (by simp)
                replace kk := kk.step ka (fun _ e _ => e.elim)
                replace hc := hc.keep ka
                try replace ho := ho.keep ka
                unfold Oper.wp execOp
                go_simp
                refine hK0.out _ _ (HS.out _ kk) ?_
                clear hK0 K0 ka
                simp only [List.setIfInBounds_toArray]
                obtain ⟨G0, hG0⟩ : ∃ G, WQ.heap.size = G := ⟨_, rfl⟩
                rw [hG0] at hlit ⊢
                clear hG0
                generalize WQ.alloc (.cells #[.int .i64 y9] 3) = WQ at *
                refine wpAnyK_1 11 (by kernel_rfl) (wpOpK' rfl rfl ?_)
                intro K0 hK0
                refine oapp (.tmp 115) (.tmp 119) rfl ho (hlit.weak (fun _ e _ => e.elim)) rfl rfl (by have := HR0.out; rw [HR0.out]; simp; omega) kk.size (fun v2 w2 h2 k2 f2 => ?_)
                have kk2 := kk.step k2 (fun q hq hl => by have := (ho.lt q hq).1; omega)
                have hc2 := hc.step k2 (fun q hq => by have := (ho.lt q hq).1; omega)
                refine hK0.out _ _ (HS.out w2 kk2) ?_
                clear hK0 K0
                simp only [List.getElem_toArray, List.getElem_cons_succ, List.getElem_cons_zero, Act.put, List.setIfInBounds_toArray, List.set_cons_zero, List.set_cons_succ]
                obtain ⟨a2, n2, c2, rfl⟩ := h2.shape
                obtain ⟨F3, hN⟩ := hput _ w2 _ _ hc2 kk2 h2
                replace hE := hE.call hc2 kk2
                have gg := (HS.out w2 kk2).2
                have gf := HGF.out w2 kk2
                have HQ7P : Hid (∀ q ∈ qs.set 0 (qs.getD 0 [] ++ [y9]), q.length ≤ 7) := Lib.hid (fun q hq => by
                  rcases List.mem_or_eq_of_mem_set hq with e | e
                  · exact HL7.out q e
                  · rw [e, List.length_append, HR0.out]; simp; omega)
                clear hput ho hlit kk kk2 hc hc2 h2 k2 f2
                refine wpAnyK_tail 12 rfl (by kernel_rfl) ?_
                simp only [List.drop_succ_cons, List.drop_zero]
                have hXR : ¬ X = R := by have := hE.lt; omega
                have hXR' : ¬ R = X := by have := hE.lt; omega
                have x0 := hE.bx.c 0 _ rfl
                have x1 := hE.bx.c 1 _ rfl
                have r0 := hE.br.c 0 _ rfl
                have r1 := hE.br.c 1 _ rfl
                have s0 := hE.br.fr 0
                have s1 := hE.br.fr 1
                have hF := hN.fin
                have z0 := hF.2.c 0 _ rfl
                have z1 := hF.2.c 1 _ rfl
                have HF := Lib.hid hF.1
                clear hE hF hN
                go_wp2_with fail
                refine bodyPost_ret (v := .agg #[.slice ua un uc, .slice (some ⟨g, 0, none⟩) qs.length vc]) (by simp [results, Tryz.results29, go_sem, z0, z1]) rfl ?_
                exact ⟨_, qs.set 0 (qs.getD 0 [] ++ [y9]), ws, rfl, by rw [HG.out]; exact HF.out.1, (by rw [List.length_set]; exact hq13), HWL.out, HQ7P.out, HF.out.2.1.more (by omega), HF.out.2.2⟩
            · have hN := hE
              have hXR : ¬ X = R := by have := hE.lt; omega
              have hXR' : ¬ R = X := by have := hE.lt; omega
              have x0 := hE.bx.c 0 _ rfl
              have x1 := hE.bx.c 1 _ rfl
              have r0 := hE.br.c 0 _ rfl
              have r1 := hE.br.c 1 _ rfl
              have s0 := hE.br.fr 0
              have s1 := hE.br.fr 1
              have hF := hN.fin
              have z0 := hF.2.c 0 _ rfl
              have z1 := hF.2.c 1 _ rfl
              have HF := Lib.hid hF.1
              clear hE hF hN
              go_wp2_with fail
              refine bodyPost_ret (v := .agg #[.slice ua un uc, .slice va qs.length vc]) (by simp [results, Tryz.results29, go_sem, z0, z1]) rfl ?_
              exact ⟨_, qs, ws, rfl, by rw [HG.out]; exact HF.out.1, hq13, HWL.out, HL7.out, HF.out.2.1.more (by omega), HF.out.2.2⟩
      · have hqp1 : ¬ (0 : Int) < (qs.length : Int) := by omega
        have hbr := (hD.call hc5 k5).br
        have r0 := hbr.c 0 _ rfl
        have r1 := hbr.c 1 _ rfl
        have s0 := hbr.fr 0
        have s1 := hbr.fr 1
        have hXR : ¬ X = R := by have := hD.lt; omega
        have hXR' : ¬ R = X := by have := hD.lt; omega
        have hF := hE.fin
        have z0 := hF.2.c 0 _ rfl
        have z1 := hF.2.c 1 _ rfl
        have HF := Lib.hid hF.1
        clear hD hE hc5 k5 how hbx5 hbr g1 hF hwl
        go_wp2_with fail
        refine bodyPost_ret (v := .agg #[.slice ua un uc, .slice va qs.length vc]) (by simp [results, Tryz.results29, go_sem, z0, z1]) rfl ?_
        exact ⟨_, qs, ws, rfl, by rw [HG.out]; exact HF.out.1, hq13, HWL.out, HL7.out, HF.out.2.1.more (by omega), HF.out.2.2⟩
end Go.Proofs.YtndhijckbponkaaGreat
