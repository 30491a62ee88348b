import Derived.Test.YtdgcohoneijleaaGreatDoorIg
import Derived.Test.YtdgcohoneijleaaGreatDoorPkX9
import Derived.Test.YtdgcohoneijleaaGreatDoorNc
import Derived.Test.YtdgcohoneijleaaGreatDoorPkX20
set_option maxRecDepth 100000
namespace Go.Proofs.YtdgcohoneijleaaGreatDoor
open Go.RowKit
theorem take_runI {l : List UInt8} {k : Nat} (hk : k ≤ l.length) (w : World) :
  (Instr.slice 9 (.string ⟨l.toArray⟩) none (some (.int .i64 (k : Int))) none).run Tryz.prog w = .ok (.string ⟨(l.take k).toArray⟩) w := by
 have hsz : (⟨l.toArray⟩ : ByteArray).size = l.length := by simp [ByteArray.size]
 rw [run_slice_string_to_if _ _ _ _ _ Tryz.underlying9, if_pos ⟨by omega, by rw [hsz]; omega⟩, ByteArray.extract_mk]
 simp
theorem drop_runI {l : List UInt8} {k : Nat} (hk : k ≤ l.length) (w : World) :
  (Instr.slice 9 (.string ⟨l.toArray⟩) (some (.int .i64 (k : Int))) none none).run Tryz.prog w = .ok (.string ⟨(l.drop k).toArray⟩) w := by
 have hsz : (⟨l.toArray⟩ : ByteArray).size = l.length := by simp [ByteArray.size]
 rw [run_slice_string_from_if _ _ _ _ _ Tryz.underlying9, if_pos ⟨by omega, by rw [hsz]; omega⟩, ByteArray.extract_mk, hsz]
 have : ((l.drop (k : Int).toNat).take (l.length - (k : Int).toNat)) = l.drop k := by
  rw [List.take_of_length_le (by rw [List.length_drop]; exact Nat.le_refl _)]
  simp
 rw [this]
set_option maxHeartbeats 2000000 in
theorem spoiltT_any (b B K : Nat) (t : List UInt8) (w : World) (h : Cur w b B K) (hK : K ≤ 800000000) (ht : t.length ≤ 1000000) :
  Calls Tryz.prog 68 #[.pointer (some ⟨b, 0, none⟩), .string ⟨t.toArray⟩, .string ⟨#[59, 32, 48, 49, 47]⟩] w fun e w' => ∃ l : List UInt8, e = .returned (.string ⟨l.toArray⟩) ∧ l.length ≤ t.length + 1 ∧ Cur w' b B (K + 6) ∧ Chg (fun q => q = b) w w' := by
 cases t with
 | nil =>
  have h1 := fun W => take_runI (l := [59, 32, 48, 49, 47]) (k := 1) (by decide) W
  go_enter Tryz.func68, Tryz.ntmps68
  go_wp2_with fail
  go_ret
  exact ⟨[59], rfl, by simp, h.more (by omega), Chg.refl _ w⟩
 | cons t0 ts =>
  obtain ⟨t, htt⟩ : ∃ t, t = t0 :: ts := ⟨_, rfl⟩
  have hne : (t == []) = false := by rw [htt]; rfl
  have htl : 1 ≤ t.length := by rw [htt]; simp
  rw [← htt] at ht ⊢
  clear htt
  have q1 := Lib.hid (pick_any b B K t.length w h (by omega) (by omega))
  have q2 := Lib.hid (fun W (hW : Cur W b B (K + 2)) => pick_any b B (K + 2) 5 W hW (by omega) (by omega))
  have q3 := Lib.hid (fun W (hW : Cur W b B (K + 4)) => pick_any b B (K + 4) 3 W hW (by omega) (by omega))
  go_enter Tryz.func68, Tryz.ntmps68
  go_wp2_with (go_at_call 52; first
   | (with_reducible refine (q1.out).mono ?_; rintro e w1 ⟨x, rfl, hx0, hx1, hx2, hc1, hk1⟩; have hxl : x < (t.length : Int) := (by by_cases h1 : 1 < (t.length : Int) <;> omega); obtain ⟨i, rfl⟩ := Int.eq_ofNat_of_zero_le hx0; have hil : i < t.length := (by omega))
   | (with_reducible refine (q2.out _ hc1).mono ?_; rintro e w2 ⟨y, rfl, hy0, hy1, hy2, hc2, hk2⟩; obtain ⟨j, rfl⟩ := Int.eq_ofNat_of_zero_le hy0; have hj5 : j < 5 := (by have := hy1 (by omega); omega); have hs1 := fun W => drop_runI (l := [59, 32, 48, 49, 47]) (k := j) (by simp; omega) W; obtain ⟨u, hu⟩ : ∃ u, u = ([59, 32, 48, 49, 47] : List UInt8).drop j := ⟨_, rfl⟩; have hul : 1 ≤ u.length := (by rw [hu, List.length_drop]; simp; omega); rw [← hu] at hs1; have hs2 := fun W => take_runI (l := u) (k := 1) hul W; obtain ⟨v, hv⟩ : ∃ v, v = u.take 1 := ⟨_, rfl⟩; have hvl : v.length ≤ 1 := (by rw [hv, List.length_take]; omega); rw [← hv] at hs2; have hex : (⟨u.toArray⟩ : ByteArray).extract 0 1 = ⟨v.toArray⟩ := (by rw [ByteArray.extract_mk, hv]; simp); clear hu hv)
   | (with_reducible refine (q3.out _ hc2).mono ?_; rintro e w3 ⟨z, rfl, hz0, hz1, hz2, hc3, hk3⟩; have f1 := fun W => take_runI (l := t) (k := i) (by omega) W; have f2 := fun W => drop_runI (l := t) (k := i) (by omega) W; have f3 := fun W => drop_runI (l := t) (k := i + 1) (by omega) W; obtain ⟨a1, ha1⟩ : ∃ a, a = t.take i := ⟨_, rfl⟩; obtain ⟨a2, ha2⟩ : ∃ a, a = t.drop i := ⟨_, rfl⟩; obtain ⟨a3, ha3⟩ : ∃ a, a = t.drop (i + 1) := ⟨_, rfl⟩; rw [← ha1] at f1; rw [← ha2] at f2; rw [← ha3] at f3; have f3' : ∀ W : World, (Instr.slice 9 (.string ⟨t.toArray⟩) (some (.int .i64 ((i : Int) + 1))) none none).run Tryz.prog W = .ok (.string ⟨a3.toArray⟩) W := (fun W => by have := f3 W; push_cast at this; exact this); have l1 : a1.length ≤ i := (by rw [ha1, List.length_take]; omega); have l2 : a2.length = t.length - i := (by rw [ha2, List.length_drop]); have l3 : a3.length = t.length - (i + 1) := (by rw [ha3, List.length_drop]); obtain ⟨m1, hm1⟩ : ∃ m, m = a1 ++ v := ⟨_, rfl⟩; obtain ⟨m2, hm2⟩ : ∃ m, m = m1 ++ a2 := ⟨_, rfl⟩; obtain ⟨m3, hm3⟩ : ∃ m, m = m1 ++ a3 := ⟨_, rfl⟩; obtain ⟨m4, hm4⟩ : ∃ m, m = a1 ++ a3 := ⟨_, rfl⟩; have n1 : m1.length ≤ i + 1 := (by rw [hm1, List.length_append]; omega); have n2 : m2.length ≤ t.length + 1 := (by rw [hm2, List.length_append]; omega); have n3 : m3.length ≤ t.length + 1 := (by rw [hm3, List.length_append]; omega); have n4 : m4.length ≤ t.length + 1 := (by rw [hm4, List.length_append]; omega); have c1 := cat_to (P := Tryz.prog) hm1 (by omega); have c2 := cat_to (P := Tryz.prog) hm2 (by omega); have c3 := cat_to (P := Tryz.prog) hm3 (by omega); have c4 := cat_to (P := Tryz.prog) hm4 (by omega); have L2 := Lib.hid l2; have L3 := Lib.hid l3; have hwi : IntKind.i64.wrap ((i : Int) + 1) = (i : Int) + 1 := IntWalk.i64_in _ (by omega); clear ha1 ha2 ha3 hm1 hm2 hm3 hm4 f3 l2 l3))
  ·refine wp_region_X (fun W => Chg No w3 W) (by kernel_rfl) (by kernel_rfl) ((Chg.refl No w3).drew) ?_
   refine wpX_val (.string ⟨t.toArray⟩) rfl (by intro W hW; go_simp) ?_
   simp only [zD, zE, zF, zG]
   refine wpX_val (.int .i64 (i : Int)) rfl (by intro W hW; go_simp) ?_
   simp only [zD, zE, zF, zG]
   refine wpX_val (.string ⟨a1.toArray⟩) rfl (by intro W hW; go_simp) ?_
   simp only [zD, zE, zF, zG]
   refine wpX_val (.string ⟨v.toArray⟩) rfl (by intro W hW; go_simp) ?_
   simp only [zD, zE, zF, zG]
   refine wpX_val (.string ⟨m1.toArray⟩) rfl (by intro W hW; go_simp) ?_
   simp only [zD, zE, zF, zG]
   refine wpX_val (.string ⟨t.toArray⟩) rfl (by intro W hW; go_simp) ?_
   simp only [zD, zE, zF, zG]
   refine wpX_val (.int .i64 (i : Int)) rfl (by intro W hW; go_simp) ?_
   simp only [zD, zE, zF, zG]
   refine wpX_val (.string ⟨a2.toArray⟩) rfl (by intro W hW; go_simp) ?_
   simp only [zD, zE, zF, zG]
   refine wpX_val (.string ⟨m2.toArray⟩) rfl (by intro W hW; go_simp) ?_
   simp only [zD, zE, zF, zG]
   refine wpX_val (.string ⟨m2.toArray⟩) rfl (by intro W hW; go_simp) ?_
   simp only [zD, zE, zF, zG]
   refine wpX_nil (fun W hW => ?_)
   go_wp2_with fail
   go_ret
   exact ⟨m2, rfl, n2, hc3.keep hW, ((hk1.trans hk2).trans hk3).step hW (fun _ e _ => e.elim)⟩
  ·refine wp_region_X (fun W => Chg No w3 W) (by kernel_rfl) (by kernel_rfl) ((Chg.refl No w3).drew) ?_
   refine wpX_val (.string ⟨t.toArray⟩) rfl (by intro W hW; go_simp) ?_
   simp only [zD, zE, zF, zG]
   refine wpX_val (.int .i64 (i : Int)) rfl (by intro W hW; go_simp) ?_
   simp only [zD, zE, zF, zG]
   refine wpX_val (.string ⟨a1.toArray⟩) rfl (by intro W hW; go_simp) ?_
   simp only [zD, zE, zF, zG]
   refine wpX_val (.string ⟨v.toArray⟩) rfl (by intro W hW; go_simp) ?_
   simp only [zD, zE, zF, zG]
   refine wpX_val (.string ⟨m1.toArray⟩) rfl (by intro W hW; go_simp) ?_
   simp only [zD, zE, zF, zG]
   refine wpX_val (.string ⟨t.toArray⟩) rfl (by intro W hW; go_simp) ?_
   simp only [zD, zE, zF, zG]
   refine wpX_val (.int .i64 (i : Int)) rfl (by intro W hW; go_simp) ?_
   simp only [zD, zE, zF, zG]
   refine wpX_val (.int .i64 ((i : Int) + 1)) rfl (by intro W hW; go_simp) ?_
   simp only [zD, zE, zF, zG]
   refine wpX_val (.string ⟨a3.toArray⟩) rfl (by intro W hW; go_simp) ?_
   simp only [zD, zE, zF, zG]
   refine wpX_val (.string ⟨m3.toArray⟩) rfl (by intro W hW; go_simp) ?_
   simp only [zD, zE, zF, zG]
   refine wpX_val (.string ⟨m3.toArray⟩) rfl (by intro W hW; go_simp) ?_
   simp only [zD, zE, zF, zG]
   refine wpX_nil (fun W hW => ?_)
   go_wp2_with fail
   go_ret
   exact ⟨m3, rfl, n3, hc3.keep hW, ((hk1.trans hk2).trans hk3).step hW (fun _ e _ => e.elim)⟩
  ·go_quiet (fail)
   go_wp2_with fail
   go_ret
   exact ⟨m4, rfl, n4, hc3.keep ((Chg.refl No w3).drewN nq), ((hk1.trans hk2).trans hk3).trans ((Chg.refl (fun q => q = b) w3).drewN nq)⟩
end Go.Proofs.YtdgcohoneijleaaGreatDoor
namespace Go.Proofs.YtdgcohoneijleaaGreatDoor
open Go.RowKit
set_option maxHeartbeats 4000000 in
theorem vTour_same (v v' : Value) (t : To) (w : World) (h : RT No w v t) (h' : RT No w v' t) :
  Calls Tryz.prog 25 #[v, v'] w (Ret fun r w' => r = .bool true ∧ Chg No w w') := by
 obtain ⟨it, ps, rq⟩ := t
 obtain ⟨pv, rv, rfl, hps, hrq⟩ := h
 obtain ⟨pv', rv', rfl, hps', hrq'⟩ := h'
 simp only at hps hrq hps' hrq' ⊢
 obtain ⟨ra, rn, rc, rfl⟩ := hrq.shape
 obtain ⟨ra', rn', rc', rfl⟩ := hrq'.shape
 obtain ⟨a, cap, rfl, hcap, hmax, hlen, pf, mf, hl, hcl⟩ := id hps
 obtain ⟨a', cap', rfl, hcap', hmax', _, pf', mf', hl', hcl'⟩ := id hps'
 obtain ⟨kk, b0, b1⟩ := boxes32 (w := w) (t := 31) (t' := 31) (x0 := .int .i64 it) (x1 := .slice a ps.length cap) (x2 := .slice ra rn rc) (y0 := .int .i64 it) (y1 := .slice a' ps.length cap') (y2 := .slice ra' rn' rc')
  (R := fun W => Chg No w W ∧ Box3 W w.heap.size (.int .i64 it) (.slice a ps.length cap) (.slice ra rn rc) ∧ Box3 W (w.heap.size + 1) (.int .i64 it) (.slice a' ps.length cap') (.slice ra' rn' rc')) (fun W k b0 b1 => ⟨k, b0, b1⟩)
 obtain ⟨c0, c1, c2, _⟩ := id b0
 obtain ⟨d0, d1, d2, _⟩ := id b1
 have HL := Lib.hid hl
 have HC := Lib.hid hcl
 have HL' := Lib.hid hl'
 have HC' := Lib.hid hcl'
 clear hl hcl hl' hcl'
 go_enter Tryz.func25, Tryz.ntmps25
 go_wp2_with fail
 refine (vInts_same No No _ _ rq _ (hrq.keep kk) (hrq'.keep kk)).mono ?_
 rintro e w1 ⟨_, rfl, rfl, k1⟩
 replace kk := kk.keep k1
 replace b0 := b0.keep k1
 replace b1 := b1.keep k1
 clear c0 c1 c2 d0 d1 d2 k1 hrq hrq' hps hps'
 obtain ⟨c0, c1, c2, _⟩ := id b0
 obtain ⟨d0, d1, d2, _⟩ := id b1
 go_wp2_with fail
 clear c0 c1 c2 d0 d1 d2
 go_loopw [5] (fun i wr => ∃ j : Nat, j ≤ ps.length ∧ i = .int .i64 j ∧ Box3 wr w.heap.size (.int .i64 it) (.slice a ps.length cap) (.slice ra rn rc) ∧ Box3 wr (w.heap.size + 1) (.int .i64 it) (.slice a' ps.length cap') (.slice ra' rn' rc') ∧ Chg No w wr) (fun i _ => ps.length - (intOf i).toNat)
 case atStart => exact ⟨0, Nat.zero_le _, rfl, b0, b1, kk⟩
 case round =>
  clear b0 b1 kk
  obtain ⟨j, hj, rfl, b0, b1, hch⟩ := hrel
  obtain ⟨c0, c1, c2, _⟩ := id b0
  by_cases hlt : j < ps.length
  ·obtain ⟨b, off, rfl, _, hb, hcell⟩ := HC.out (by intro e; simp [e] at hlt)
   obtain ⟨b', off', rfl, _, hb', hcell'⟩ := HC'.out (by intro e; simp [e] at hlt)
   have h7 := hcell j hlt
   have h7' := hcell' j hlt
   obtain ⟨hpj, hmj⟩ := HL.out j hlt
   obtain ⟨hpj', hmj'⟩ := HL'.out j hlt
   obtain ⟨y, hy⟩ : ∃ y, ps.getD j dPl = y := ⟨_, rfl⟩
   rw [hy] at h7 hpj hmj h7' hpj' hmj'
   clear hcell hcell' hy
   have hj0 : (0 : Int) ≤ (j : Int) := Int.natCast_nonneg _
   have hj1 : (j : Int) < (ps.length : Int) := by omega
   have hw1 : IntKind.i64.wrap ((j : Int) + 1) = (j : Int) + 1 := IntWalk.i64_in _ (by omega)
   generalize pf j = pj at hpj h7
   generalize mf j = mj at hmj h7
   generalize pf' j = pj' at hpj' h7'
   generalize mf' j = mj' at hmj' h7'
   obtain ⟨ya, yn, yc, rfl⟩ := hpj.shape
   obtain ⟨za, zn, zc, rfl⟩ := hmj.shape
   obtain ⟨ya', yn', yc', rfl⟩ := hpj'.shape
   obtain ⟨za', zn', zc', rfl⟩ := hmj'.shape
   obtain ⟨C, hC1, hC2⟩ : ∃ C : World → Prop, (∀ W, C W → Chg No w W ∧ Chg No wr W) ∧ (∀ W, Chg No w W → Chg No wr W → C W) := ⟨_, fun _ h => h, fun _ h h' => ⟨h, h'⟩⟩
   have HCELL : Hid (∀ W, C W → W.cell? ⟨w.heap.size, 0, none⟩ = some (.int .i64 it) ∧ W.cell? ⟨w.heap.size, 1, none⟩ = some (.slice (some ⟨b, off, none⟩) ps.length cap) ∧ W.cell? ⟨w.heap.size, 2, none⟩ = some (.slice ra rn rc) ∧
     W.cell? ⟨w.heap.size + 1, 0, none⟩ = some (.int .i64 it) ∧ W.cell? ⟨w.heap.size + 1, 1, none⟩ = some (.slice (some ⟨b', off', none⟩) ps.length cap') ∧ W.cell? ⟨w.heap.size + 1, 2, none⟩ = some (.slice ra' rn' rc') ∧
     W.cell? ⟨b, off + j * 7, none⟩ = some (.int .i64 y.frm) ∧ W.cell? ⟨b, off + j * 7 + 1, none⟩ = some (.int .i64 y.ca.pol) ∧ W.cell? ⟨b, off + j * 7 + 2, none⟩ = some (.int .i64 y.ca.size) ∧ W.cell? ⟨b, off + j * 7 + 3, none⟩ = some (.slice ya yn yc) ∧ W.cell? ⟨b, off + j * 7 + 4, none⟩ = some (.slice za zn zc) ∧ W.cell? ⟨b, off + j * 7 + 5, none⟩ = some (.int .i64 y.ca.hand) ∧ W.cell? ⟨b, off + j * 7 + 6, none⟩ = some (.int .i64 y.fa) ∧
     W.cell? ⟨b', off' + j * 7, none⟩ = some (.int .i64 y.frm) ∧ W.cell? ⟨b', off' + j * 7 + 1, none⟩ = some (.int .i64 y.ca.pol) ∧ W.cell? ⟨b', off' + j * 7 + 2, none⟩ = some (.int .i64 y.ca.size) ∧ W.cell? ⟨b', off' + j * 7 + 3, none⟩ = some (.slice ya' yn' yc') ∧ W.cell? ⟨b', off' + j * 7 + 4, none⟩ = some (.slice za' zn' zc') ∧ W.cell? ⟨b', off' + j * 7 + 5, none⟩ = some (.int .i64 y.ca.hand) ∧ W.cell? ⟨b', off' + j * 7 + 6, none⟩ = some (.int .i64 y.fa)) := Lib.hid (fun W hW => by
    obtain ⟨g2, g5⟩ := hC1 W hW
    have g3 := h7.step g2 hb (fun e => e)
    have g4 := h7'.step g2 hb' (fun e => e)
    have g6 := b0.keep g5
    have g7 := b1.keep g5
    exact ⟨g6.c0, g6.c1, g6.c2, g7.c0, g7.c1, g7.c2, g3.c0, g3.c1, g3.c2, g3.c3, g3.c4, g3.c5, g3.c6, g4.c0, g4.c1, g4.c2, g4.c3, g4.c4, g4.c5, g4.c6⟩)
   have HX := Lib.hid hC1
   have HI := Lib.hid hC2
   have hC0 := hC2 _ hch.drew (Chg.refl No wr).drew
   clear hC1 hC2 h7 h7'
   go_wp2_with fail
   refine wp_region_X C (by kernel_rfl) (by kernel_rfl) hC0 ?_
   clear hC0 c0 c1 c2
   refine wpX_val (.pointer (some ⟨w.heap.size, 1, none⟩)) rfl (by intro W hW; obtain ⟨g0, g1, g2, q0, q1, q2, d0, d1, d2, d3, d4, d5, d6, e0, e1, e2, e3, e4, e5, e6⟩ := HCELL.out W hW; go_simp) ?_
   simp only [zD, zE, zF, zG]
   refine wpX_val (.slice (some ⟨b, off, none⟩) ps.length cap) rfl (by intro W hW; obtain ⟨g0, g1, g2, q0, q1, q2, d0, d1, d2, d3, d4, d5, d6, e0, e1, e2, e3, e4, e5, e6⟩ := HCELL.out W hW; go_simp) ?_
   simp only [zD, zE, zF, zG]
   refine wpX_val (.int .i64 j) rfl (by intro W hW; obtain ⟨g0, g1, g2, q0, q1, q2, d0, d1, d2, d3, d4, d5, d6, e0, e1, e2, e3, e4, e5, e6⟩ := HCELL.out W hW; go_simp) ?_
   simp only [zD, zE, zF, zG]
   refine wpX_val (.pointer (some ⟨b, off + j * 7, none⟩)) rfl (by intro W hW; obtain ⟨g0, g1, g2, q0, q1, q2, d0, d1, d2, d3, d4, d5, d6, e0, e1, e2, e3, e4, e5, e6⟩ := HCELL.out W hW; go_simp) ?_
   simp only [zD, zE, zF, zG]
   refine wpX_val (.pointer (some ⟨b, off + j * 7, none⟩)) rfl (by intro W hW; obtain ⟨g0, g1, g2, q0, q1, q2, d0, d1, d2, d3, d4, d5, d6, e0, e1, e2, e3, e4, e5, e6⟩ := HCELL.out W hW; go_simp) ?_
   simp only [zD, zE, zF, zG]
   refine wpX_val (.int .i64 y.frm) rfl (by intro W hW; obtain ⟨g0, g1, g2, q0, q1, q2, d0, d1, d2, d3, d4, d5, d6, e0, e1, e2, e3, e4, e5, e6⟩ := HCELL.out W hW; go_simp) ?_
   simp only [zD, zE, zF, zG]
   refine wpX_val (.pointer (some ⟨w.heap.size + 1, 1, none⟩)) rfl (by intro W hW; obtain ⟨g0, g1, g2, q0, q1, q2, d0, d1, d2, d3, d4, d5, d6, e0, e1, e2, e3, e4, e5, e6⟩ := HCELL.out W hW; go_simp) ?_
   simp only [zD, zE, zF, zG]
   refine wpX_val (.slice (some ⟨b', off', none⟩) ps.length cap') rfl (by intro W hW; obtain ⟨g0, g1, g2, q0, q1, q2, d0, d1, d2, d3, d4, d5, d6, e0, e1, e2, e3, e4, e5, e6⟩ := HCELL.out W hW; go_simp) ?_
   simp only [zD, zE, zF, zG]
   refine wpX_val (.int .i64 j) rfl (by intro W hW; obtain ⟨g0, g1, g2, q0, q1, q2, d0, d1, d2, d3, d4, d5, d6, e0, e1, e2, e3, e4, e5, e6⟩ := HCELL.out W hW; go_simp) ?_
   simp only [zD, zE, zF, zG]
   refine wpX_val (.pointer (some ⟨b', off' + j * 7, none⟩)) rfl (by intro W hW; obtain ⟨g0, g1, g2, q0, q1, q2, d0, d1, d2, d3, d4, d5, d6, e0, e1, e2, e3, e4, e5, e6⟩ := HCELL.out W hW; go_simp) ?_
   simp only [zD, zE, zF, zG]
   refine wpX_val (.pointer (some ⟨b', off' + j * 7, none⟩)) rfl (by intro W hW; obtain ⟨g0, g1, g2, q0, q1, q2, d0, d1, d2, d3, d4, d5, d6, e0, e1, e2, e3, e4, e5, e6⟩ := HCELL.out W hW; go_simp) ?_
   simp only [zD, zE, zF, zG]
   refine wpX_val (.int .i64 y.frm) rfl (by intro W hW; obtain ⟨g0, g1, g2, q0, q1, q2, d0, d1, d2, d3, d4, d5, d6, e0, e1, e2, e3, e4, e5, e6⟩ := HCELL.out W hW; go_simp) ?_
   simp only [zD, zE, zF, zG]
   refine wpX_val (.bool false) rfl (by intro W hW; obtain ⟨g0, g1, g2, q0, q1, q2, d0, d1, d2, d3, d4, d5, d6, e0, e1, e2, e3, e4, e5, e6⟩ := HCELL.out W hW; go_simp) ?_
   simp only [zD, zE, zF, zG]
   refine wpX_val (.bool false) rfl (by intro W hW; obtain ⟨g0, g1, g2, q0, q1, q2, d0, d1, d2, d3, d4, d5, d6, e0, e1, e2, e3, e4, e5, e6⟩ := HCELL.out W hW; go_simp) ?_
   simp only [zD, zE, zF, zG]
   refine wpX_val (.pointer (some ⟨w.heap.size, 1, none⟩)) rfl (by intro W hW; obtain ⟨g0, g1, g2, q0, q1, q2, d0, d1, d2, d3, d4, d5, d6, e0, e1, e2, e3, e4, e5, e6⟩ := HCELL.out W hW; go_simp) ?_
   simp only [zD, zE, zF, zG]
   refine wpX_val (.slice (some ⟨b, off, none⟩) ps.length cap) rfl (by intro W hW; obtain ⟨g0, g1, g2, q0, q1, q2, d0, d1, d2, d3, d4, d5, d6, e0, e1, e2, e3, e4, e5, e6⟩ := HCELL.out W hW; go_simp) ?_
   simp only [zD, zE, zF, zG]
   refine wpX_val (.int .i64 j) rfl (by intro W hW; obtain ⟨g0, g1, g2, q0, q1, q2, d0, d1, d2, d3, d4, d5, d6, e0, e1, e2, e3, e4, e5, e6⟩ := HCELL.out W hW; go_simp) ?_
   simp only [zD, zE, zF, zG]
   refine wpX_val (.pointer (some ⟨b, off + j * 7, none⟩)) rfl (by intro W hW; obtain ⟨g0, g1, g2, q0, q1, q2, d0, d1, d2, d3, d4, d5, d6, e0, e1, e2, e3, e4, e5, e6⟩ := HCELL.out W hW; go_simp) ?_
   simp only [zD, zE, zF, zG]
   refine wpX_val (.pointer (some ⟨b, off + j * 7 + 6, none⟩)) rfl (by intro W hW; obtain ⟨g0, g1, g2, q0, q1, q2, d0, d1, d2, d3, d4, d5, d6, e0, e1, e2, e3, e4, e5, e6⟩ := HCELL.out W hW; go_simp) ?_
   simp only [zD, zE, zF, zG]
   refine wpX_val (.int .i64 y.fa) rfl (by intro W hW; obtain ⟨g0, g1, g2, q0, q1, q2, d0, d1, d2, d3, d4, d5, d6, e0, e1, e2, e3, e4, e5, e6⟩ := HCELL.out W hW; go_simp) ?_
   simp only [zD, zE, zF, zG]
   refine wpX_val (.pointer (some ⟨w.heap.size + 1, 1, none⟩)) rfl (by intro W hW; obtain ⟨g0, g1, g2, q0, q1, q2, d0, d1, d2, d3, d4, d5, d6, e0, e1, e2, e3, e4, e5, e6⟩ := HCELL.out W hW; go_simp) ?_
   simp only [zD, zE, zF, zG]
   refine wpX_val (.slice (some ⟨b', off', none⟩) ps.length cap') rfl (by intro W hW; obtain ⟨g0, g1, g2, q0, q1, q2, d0, d1, d2, d3, d4, d5, d6, e0, e1, e2, e3, e4, e5, e6⟩ := HCELL.out W hW; go_simp) ?_
   simp only [zD, zE, zF, zG]
   refine wpX_val (.int .i64 j) rfl (by intro W hW; obtain ⟨g0, g1, g2, q0, q1, q2, d0, d1, d2, d3, d4, d5, d6, e0, e1, e2, e3, e4, e5, e6⟩ := HCELL.out W hW; go_simp) ?_
   simp only [zD, zE, zF, zG]
   refine wpX_val (.pointer (some ⟨b', off' + j * 7, none⟩)) rfl (by intro W hW; obtain ⟨g0, g1, g2, q0, q1, q2, d0, d1, d2, d3, d4, d5, d6, e0, e1, e2, e3, e4, e5, e6⟩ := HCELL.out W hW; go_simp) ?_
   simp only [zD, zE, zF, zG]
   refine wpX_val (.pointer (some ⟨b', off' + j * 7 + 6, none⟩)) rfl (by intro W hW; obtain ⟨g0, g1, g2, q0, q1, q2, d0, d1, d2, d3, d4, d5, d6, e0, e1, e2, e3, e4, e5, e6⟩ := HCELL.out W hW; go_simp) ?_
   simp only [zD, zE, zF, zG]
   refine wpX_val (.int .i64 y.fa) rfl (by intro W hW; obtain ⟨g0, g1, g2, q0, q1, q2, d0, d1, d2, d3, d4, d5, d6, e0, e1, e2, e3, e4, e5, e6⟩ := HCELL.out W hW; go_simp) ?_
   simp only [zD, zE, zF, zG]
   refine wpX_val (.bool false) rfl (by intro W hW; obtain ⟨g0, g1, g2, q0, q1, q2, d0, d1, d2, d3, d4, d5, d6, e0, e1, e2, e3, e4, e5, e6⟩ := HCELL.out W hW; go_simp) ?_
   simp only [zD, zE, zF, zG]
   refine wpX_val (.bool false) rfl (by intro W hW; obtain ⟨g0, g1, g2, q0, q1, q2, d0, d1, d2, d3, d4, d5, d6, e0, e1, e2, e3, e4, e5, e6⟩ := HCELL.out W hW; go_simp) ?_
   simp only [zD, zE, zF, zG]
   refine wpX_val (.bool false) rfl (by intro W hW; obtain ⟨g0, g1, g2, q0, q1, q2, d0, d1, d2, d3, d4, d5, d6, e0, e1, e2, e3, e4, e5, e6⟩ := HCELL.out W hW; go_simp) ?_
   simp only [zD, zE, zF, zG]
   refine wpX_val (.pointer (some ⟨w.heap.size, 1, none⟩)) rfl (by intro W hW; obtain ⟨g0, g1, g2, q0, q1, q2, d0, d1, d2, d3, d4, d5, d6, e0, e1, e2, e3, e4, e5, e6⟩ := HCELL.out W hW; go_simp) ?_
   simp only [zD, zE, zF, zG]
   refine wpX_val (.slice (some ⟨b, off, none⟩) ps.length cap) rfl (by intro W hW; obtain ⟨g0, g1, g2, q0, q1, q2, d0, d1, d2, d3, d4, d5, d6, e0, e1, e2, e3, e4, e5, e6⟩ := HCELL.out W hW; go_simp) ?_
   simp only [zD, zE, zF, zG]
   refine wpX_val (.int .i64 j) rfl (by intro W hW; obtain ⟨g0, g1, g2, q0, q1, q2, d0, d1, d2, d3, d4, d5, d6, e0, e1, e2, e3, e4, e5, e6⟩ := HCELL.out W hW; go_simp) ?_
   simp only [zD, zE, zF, zG]
   refine wpX_val (.pointer (some ⟨b, off + j * 7, none⟩)) rfl (by intro W hW; obtain ⟨g0, g1, g2, q0, q1, q2, d0, d1, d2, d3, d4, d5, d6, e0, e1, e2, e3, e4, e5, e6⟩ := HCELL.out W hW; go_simp) ?_
   simp only [zD, zE, zF, zG]
   refine wpX_val (.pointer (some ⟨b, off + j * 7 + 1, none⟩)) rfl (by intro W hW; obtain ⟨g0, g1, g2, q0, q1, q2, d0, d1, d2, d3, d4, d5, d6, e0, e1, e2, e3, e4, e5, e6⟩ := HCELL.out W hW; go_simp) ?_
   simp only [zD, zE, zF, zG]
   refine wpX_val (.agg #[.int .i64 y.ca.pol, .int .i64 y.ca.size, .slice ya yn yc, .slice za zn zc, .int .i64 y.ca.hand]) rfl (by intro W hW; obtain ⟨g0, g1, g2, q0, q1, q2, d0, d1, d2, d3, d4, d5, d6, e0, e1, e2, e3, e4, e5, e6⟩ := HCELL.out W hW; go_simp) ?_
   simp only [zD, zE, zF, zG]
   refine wpX_val (.pointer (some ⟨w.heap.size + 1, 1, none⟩)) rfl (by intro W hW; obtain ⟨g0, g1, g2, q0, q1, q2, d0, d1, d2, d3, d4, d5, d6, e0, e1, e2, e3, e4, e5, e6⟩ := HCELL.out W hW; go_simp) ?_
   simp only [zD, zE, zF, zG]
   refine wpX_val (.slice (some ⟨b', off', none⟩) ps.length cap') rfl (by intro W hW; obtain ⟨g0, g1, g2, q0, q1, q2, d0, d1, d2, d3, d4, d5, d6, e0, e1, e2, e3, e4, e5, e6⟩ := HCELL.out W hW; go_simp) ?_
   simp only [zD, zE, zF, zG]
   refine wpX_val (.int .i64 j) rfl (by intro W hW; obtain ⟨g0, g1, g2, q0, q1, q2, d0, d1, d2, d3, d4, d5, d6, e0, e1, e2, e3, e4, e5, e6⟩ := HCELL.out W hW; go_simp) ?_
   simp only [zD, zE, zF, zG]
   refine wpX_val (.pointer (some ⟨b', off' + j * 7, none⟩)) rfl (by intro W hW; obtain ⟨g0, g1, g2, q0, q1, q2, d0, d1, d2, d3, d4, d5, d6, e0, e1, e2, e3, e4, e5, e6⟩ := HCELL.out W hW; go_simp) ?_
   simp only [zD, zE, zF, zG]
   refine wpX_val (.pointer (some ⟨b', off' + j * 7 + 1, none⟩)) rfl (by intro W hW; obtain ⟨g0, g1, g2, q0, q1, q2, d0, d1, d2, d3, d4, d5, d6, e0, e1, e2, e3, e4, e5, e6⟩ := HCELL.out W hW; go_simp) ?_
   simp only [zD, zE, zF, zG]
   refine wpX_val ((.agg #[.int .i64 y.ca.pol, .int .i64 y.ca.size, .slice ya' yn' yc', .slice za' zn' zc', .int .i64 y.ca.hand])) rfl (by intro W hW; obtain ⟨g0, g1, g2, q0, q1, q2, d0, d1, d2, d3, d4, d5, d6, e0, e1, e2, e3, e4, e5, e6⟩ := HCELL.out W hW; go_simp) ?_
   simp only [zD, zE, zF, zG]
   refine wpX_call (.bool true) (f := 66) (args := #[.agg #[.int .i64 y.ca.pol, .int .i64 y.ca.size, .slice ya yn yc, .slice za zn zc, .int .i64 y.ca.hand], .agg #[.int .i64 y.ca.pol, .int .i64 y.ca.size, .slice ya' yn' yc', .slice za' zn' zc', .int .i64 y.ca.hand]]) rfl (by intro W hW; go_simp)
    (fun W hW => (vCache_same No No _ _ y.ca W ⟨_, _, rfl, hpj.keep (HX.out W hW).1, hmj.keep (HX.out W hW).1⟩ ⟨_, _, rfl, hpj'.keep (HX.out W hW).1, hmj'.keep (HX.out W hW).1⟩).mono (by rintro e w' ⟨_, rfl, rfl, hk⟩; exact ⟨rfl, HI.out _ ((HX.out W hW).1.keep hk) ((HX.out W hW).2.keep hk)⟩)) ?_
   simp only [zD, zE, zF, zG]
   refine wpX_val (.bool false) rfl (by intro W hW; obtain ⟨g0, g1, g2, q0, q1, q2, d0, d1, d2, d3, d4, d5, d6, e0, e1, e2, e3, e4, e5, e6⟩ := HCELL.out W hW; go_simp) ?_
   simp only [zD, zE, zF, zG]
   refine wpX_val (.bool false) rfl (by intro W hW; obtain ⟨g0, g1, g2, q0, q1, q2, d0, d1, d2, d3, d4, d5, d6, e0, e1, e2, e3, e4, e5, e6⟩ := HCELL.out W hW; go_simp) ?_
   simp only [zD, zE, zF, zG]
   refine wpX_nil (fun W hW => ?_)
   obtain ⟨g2, g5⟩ := HX.out W hW
   replace b0 := b0.keep g5
   replace b1 := b1.keep g5
   go_wp2_with fail
   go_round
   case rel => exact ⟨j + 1, by omega, by go_num, b0, b1, g2⟩
   case measure => simp [intOf]; omega
  ·have hjl : j = ps.length := by omega
   subst hjl
   go_wp2_with fail
   go_ret
   exact ⟨_, rfl, rfl, hch⟩
theorem RT.weakS {A B : Nat → Prop} {w : World} {v : Value} {t : To} (h : RT A w v t) (hB : ∀ q, B q → q < w.heap.size → A q) : RT B w v t := by
 obtain ⟨pv, rv, rfl, h1, h2⟩ := h
 exact ⟨_, _, rfl, h1.weak hB, h2.weak hB⟩
theorem RT.step {A T : Nat → Prop} {w w' : World} {v : Value} {t : To} (h : RT A w v t) (hc : Chg T w w') (hT : ∀ k, T k → A k) : RT A w' v t := by
 obtain ⟨pv, rv, rfl, h1, h2⟩ := h
 exact ⟨_, _, rfl, h1.step hc hT, h2.step hc hT⟩
theorem RT.no {A : Nat → Prop} {w : World} {v : Value} {t : To} (h : RT A w v t) : RT No w v t := h.weakS (fun _ e _ => e.elim)
end Go.Proofs.YtdgcohoneijleaaGreatDoor
