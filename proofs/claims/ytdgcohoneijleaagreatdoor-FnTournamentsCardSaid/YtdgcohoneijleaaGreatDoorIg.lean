import Derived.Test.YtdgcohoneijleaaGreatDoorPkX16
set_option maxRecDepth 100000
namespace Go.Proofs.YtdgcohoneijleaaGreatDoor
open Go.RowKit
theorem wpAnyK_mono {P : Program} {ops : Array Oper} {Q : Exit → Act → World → Prop} {md : Region.Mode} {S S' : World → Prop} {k : Nat} (hs : ∀ w, S' w → S w) : ∀ (f : Nat) (listed : Array Bool) (a : Act) (w : World),
  wpAnyK P md ops Q S' k f listed a w → wpAnyK P md ops Q S k f listed a w
 | 0, _, _, _, h => h
 | f + 1, _, _, _, h => ⟨h.1, fun i hi => wpOp_mono (fun a' w' h' => ⟨fun h0 => hs w' (h'.1 h0), wpAnyK_mono hs f _ a' w' h'.2⟩) (h.2 i hi)⟩
theorem cat_too {P : Program} {x y z : List UInt8} (hz : z = x ++ y) (h : z.length ≤ 9223372036854775807) (w : World) : (Op.stringOp .add ⟨x.toArray⟩ ⟨y.toArray⟩).run P w = .ok (.string ⟨z.toArray⟩) w := by
 rw [hz] at h ⊢
 rw [List.length_append] at h
 exact cat_run x y h w
def tjT (it : Int) (rq : List Int) (ps : List Pl) (j : Nat) : List UInt8 := Lib.join (Lib.itoa it :: reqT rq :: (ps.take j).map plT) [59, 32]
theorem tjT_zero (it : Int) (rq : List Int) (ps : List Pl) : tjT it rq ps 0 = Lib.itoa it ++ [59, 32] ++ reqT rq := by
 simp [tjT, Lib.join_cons, Lib.joinTail]
theorem tjT_succ (it : Int) (rq : List Int) (ps : List Pl) (j : Nat) (hj : j < ps.length) : tjT it rq ps (j + 1) = tjT it rq ps j ++ [59, 32] ++ plT (ps.getD j dPl) := by
 unfold tjT
 rw [List.take_succ_eq_append_getElem hj, List.map_append, ← List.cons_append, ← List.cons_append, List.map_cons, List.map_nil, join_snoc _ _ _ (by simp), List.getD_eq_getElem?_getD, List.getElem?_eq_getElem hj]
 rfl
theorem tjT_full (t : To) : tjT t.items t.reqs t.ps t.ps.length = touT t := by
 unfold tjT touT touW
 rw [List.take_length]
theorem polT_len {p : Int} (h : 1 ≤ p ∧ p ≤ 7) : (polT p).length ≤ 5 := by
 rcases seven h with rfl | rfl | rfl | rfl | rfl | rfl | rfl <;> decide
theorem plT_len {y : Pl} {l : List Int} (h : playB y l = true) (hl : l.length ≤ 60) : (plT y).length ≤ 50 := by
 obtain ⟨h1, h2, h3⟩ := play_parts h
 have a := polT_len h2
 have b := itoa_21 (x := y.ca.size) (by omega)
 have c := itoa_21 (x := y.frm) (by omega)
 unfold plT
 simp only [List.length_append, List.length_cons]
 omega
theorem tjT_len {t : To} (ht : tourB t = true) : ∀ j, j ≤ t.ps.length → (tjT t.items t.reqs t.ps j).length ≤ 1400 + 60 * j
 | 0, _ => by
  obtain ⟨h1, h2, h3, h4, h5⟩ := tour_req ht
  have a := itoa_21 (x := t.items) (by omega)
  have b := req_len t.reqs (fun x hx => by have := h3 x hx; omega)
  rw [tjT_zero]
  simp only [List.length_append, List.length_cons, List.length_nil]
  omega
 | j + 1, hj => by
  have ih := tjT_len ht j (by omega)
  have hx : t.ps.getD j dPl ∈ t.ps := by rw [List.getD_eq_getElem?_getD, List.getElem?_eq_getElem (by omega)]; exact List.getElem_mem _
  have := plT_len (tour_ps ht hx) (tour_req ht).2.1
  rw [tjT_succ _ _ _ _ (by omega)]
  simp only [List.length_append, List.length_cons, List.length_nil]
  omega
theorem pl_parts (T : List UInt8) (y : Pl) (l : List Int) (hT : T.length ≤ 100000) (h : playB y l = true) (hl : l.length ≤ 60) : ∃ N Z1 Z2 A0 A1 A2 A3 A4 A5 B0 B1 B2 B3 B4 : List UInt8, polT y.ca.pol = N ∧ Lib.itoa y.ca.size = Z1 ∧ Lib.itoa y.frm = Z2 ∧ T ++ [59, 32] ++ plT y = A5 ∧
  (A0 = T ++ [59, 32] ∧ A1 = A0 ++ N ∧ A2 = A1 ++ [47] ∧ A3 = A2 ++ Z1 ∧ A4 = A3 ++ [32] ∧ A5 = A4 ++ Z2) ∧ (B0 = [59, 32] ++ N ∧ B1 = B0 ++ [47] ∧ B2 = B1 ++ Z1 ∧ B3 = B2 ++ [32] ∧ B4 = B3 ++ Z2 ∧ A5 = T ++ B4) ∧
  A0.length ≤ 200000 ∧ A1.length ≤ 200000 ∧ A2.length ≤ 200000 ∧ A3.length ≤ 200000 ∧ A4.length ≤ 200000 ∧ A5.length ≤ 200000 ∧ B0.length ≤ 200000 ∧ B1.length ≤ 200000 ∧ B2.length ≤ 200000 ∧ B3.length ≤ 200000 ∧ B4.length ≤ 200000 := by
 obtain ⟨h1, h2, h3⟩ := play_parts h
 have a := polT_len h2
 have b := itoa_21 (x := y.ca.size) (by omega)
 have c := itoa_21 (x := y.frm) (by omega)
 refine ⟨polT y.ca.pol, Lib.itoa y.ca.size, Lib.itoa y.frm, _, _, _, _, _, T ++ [59, 32] ++ plT y, _, _, _, _, _, rfl, rfl, rfl, rfl, ⟨rfl, rfl, rfl, rfl, rfl, ?_⟩, ⟨rfl, rfl, rfl, rfl, rfl, ?_⟩, ?_⟩
 ·simp [plT]
 ·simp [plT]
 ·simp only [plT, List.length_append, List.length_cons, List.length_nil]
  omega
theorem l1Num_dig (x : Int) (hx : 0 ≤ x ∧ x < 10) (w : World) : Calls Tryz.prog 72 #[.int .i64 x] w fun e w' => e = .returned (.string ⟨(Lib.itoa x).toArray⟩) ∧ w' = w := by
 obtain ⟨n, rfl⟩ : ∃ n : Nat, x = (n : Int) := ⟨x.toNat, by omega⟩
 have h0 : ¬ (n : Int) < 0 := by omega
 have h1 : (n : Int) < 10 := by omega
 have HD : Hid (Lib.decDigits n = [UInt8.ofNat (48 + n)]) := Lib.hid (by rw [Lib.decDigits, dif_pos (by omega)])
 have HE := Lib.hid (digit_at n (by omega))
 go_enter Tryz.func72, Tryz.ntmps72
 go_wp2
 go_ret
 exact ⟨ret_str (by rw [HE.out, itoa_nat', HD.out]), rfl⟩
set_option maxHeartbeats 4000000 in
theorem tournamentText_any (v : Value) (t : To) (w : World) (h : RT No w v t) (ht : tourB t = true) (hw : Lay w) :
  Calls Tryz.prog 34 #[v] w fun e w' => e = .returned (.string ⟨(touT t).toArray⟩) ∧ Chg No w w' := by
 obtain ⟨it, ps, rq⟩ := t
 obtain ⟨pv, rv, rfl, hps, hrq⟩ := h
 simp only at hps hrq ⊢
 obtain ⟨hit, hr60, hr7, hreq, hp4⟩ := tour_req ht
 simp only at hit hr60 hr7 hp4
 obtain ⟨ra, rc, rfl, _⟩ := id hrq
 obtain ⟨a, cap, rfl, hcap, hmax, hlen, pf, mf, hl, hcl⟩ := id hps
 have HTL : Hid (∀ j, j ≤ ps.length → (tjT it rq ps j).length ≤ 1400 + 60 * j) := Lib.hid (tjT_len ht)
 have HPL : Hid (∀ j, j < ps.length → playB (ps.getD j dPl) rq = true) := Lib.hid (fun j hj => tour_ps ht (by rw [List.getD_eq_getElem?_getD, List.getElem?_eq_getElem hj]; exact List.getElem_mem _))
 have HFU : Hid (tjT it rq ps ps.length = touT ⟨it, ps, rq⟩) := Lib.hid (tjT_full ⟨it, ps, rq⟩)
 rw [← HFU.out]
 have HR60 := Lib.hid hr60
 have HTWO : Hid (Two rq) := Lib.hid (fun x hx => by have := hr7 x hx; omega)
 obtain ⟨Z0, hZ0⟩ : ∃ Z0, Lib.itoa it = Z0 := ⟨_, rfl⟩
 obtain ⟨R0, hR0⟩ : ∃ R0, reqT rq = R0 := ⟨_, rfl⟩
 obtain ⟨X0, hX0⟩ : ∃ X0, X0 = Z0 ++ [59, 32] := ⟨_, rfl⟩
 obtain ⟨X1, hX1⟩ : ∃ X1, X1 = X0 ++ R0 := ⟨_, rfl⟩
 have HX1 : Hid (tjT it rq ps 0 = X1) := Lib.hid (by rw [tjT_zero, hX1, hX0, hZ0, hR0])
 have hX1l : X1.length ≤ 1400 := by rw [← HX1.out]; exact HTL.out 0 (Nat.zero_le _)
 have c0 := cat_too (P := Tryz.prog) hX0 (by rw [hX1] at hX1l; simp at hX1l; omega)
 have c1 := cat_too (P := Tryz.prog) hX1 (by omega)
 have k0 := (Chg.refl No w).alloc (.cells #[.int .i64 it, .slice a ps.length cap, .slice ra rq.length rc] 31)
 have b0 := Box3.new w (.int .i64 it) (.slice a ps.length cap) (.slice ra rq.length rc) 31
 have HL := Lib.hid hl
 have HC := Lib.hid hcl
 have q0 := Lib.hid (fun W => decI_small it (by omega) W)
 have q1 := Lib.hid (fun W h => requestsText_any (.slice ra rq.length rc) rq W h HTWO.out (by omega))
 rw [hZ0] at q0
 rw [hR0] at q1
 have HRQ := Lib.hid hrq
 clear hX0 hX1 hZ0 hR0 hreq hr7 hit ht hl hcl hrq hps hX1l
 obtain ⟨C, hC1, hC2⟩ : ∃ C : World → Prop, (∀ W, C W → Box3 W w.heap.size (.int .i64 it) (.slice a ps.length cap) (.slice ra rq.length rc) ∧ Chg No w W) ∧
   (∀ W, Box3 W w.heap.size (.int .i64 it) (.slice a ps.length cap) (.slice ra rq.length rc) → Chg No w W → C W) := ⟨_, fun _ h => h, fun _ h h' => ⟨h, h'⟩⟩
 have HCELL : Hid (∀ W, C W → W.cell? ⟨w.heap.size, 0, none⟩ = some (.int .i64 it) ∧ W.cell? ⟨w.heap.size, 2, none⟩ = some (.slice ra rq.length rc) ∧ True) := Lib.hid (fun W hW => by
  obtain ⟨g1, g2⟩ := hC1 W hW
  exact ⟨g1.c0, g1.c2, trivial⟩)
 have HK : Hid (∀ W W', C W → Chg No W W' → C W') := Lib.hid (fun W W' hW hk => hC2 W' ((hC1 W hW).1.keep hk) ((hC1 W hW).2.keep hk))
 have HX := Lib.hid hC1
 have hC0 := hC2 _ (b0.keep (Chg.refl No _).drew) k0.drew
 clear hC1 hC2 b0 k0
 go_enter Tryz.func34, Tryz.ntmps34
 go_wp2_with fail
 refine wp_region_X C (by kernel_rfl) (by kernel_rfl) hC0 ?_
 clear hC0
 refine wpX_val (.pointer (some ⟨w.heap.size, 0, none⟩)) rfl (by intro W hW; obtain ⟨d0, d2, _⟩ := HCELL.out W hW; go_simp) ?_
 simp only [zD, zE, zF, zG]
 refine wpX_val (.int .i64 it) rfl (by intro W hW; obtain ⟨d0, d2, _⟩ := HCELL.out W hW; go_simp) ?_
 simp only [zD, zE, zF, zG]
 refine wpX_call (.string ⟨Z0.toArray⟩) (f := 76) (args := #[.int .i64 it]) rfl (by intro W hW; go_simp) (fun W hW => (q0.out W).mono (by rintro e w' ⟨rfl, rfl⟩; exact ⟨rfl, hW⟩)) ?_
 simp only [zD, zE, zF, zG]
 refine wpX_val (.string ⟨X0.toArray⟩) rfl (by intro W hW; obtain ⟨d0, d2, _⟩ := HCELL.out W hW; go_simp) ?_
 simp only [zD, zE, zF, zG]
 refine wpX_val (.pointer (some ⟨w.heap.size, 2, none⟩)) rfl (by intro W hW; obtain ⟨d0, d2, _⟩ := HCELL.out W hW; go_simp) ?_
 simp only [zD, zE, zF, zG]
 refine wpX_val (.slice ra rq.length rc) rfl (by intro W hW; obtain ⟨d0, d2, _⟩ := HCELL.out W hW; go_simp) ?_
 simp only [zD, zE, zF, zG]
 refine wpX_call (.string ⟨R0.toArray⟩) (f := 77) (args := #[.slice ra rq.length rc]) rfl (by intro W hW; go_simp) (fun W hW => (q1.out W (HRQ.out.keep (HX.out W hW).2)).mono (by rintro e w' ⟨rfl, hk⟩; exact ⟨rfl, HK.out _ _ hW hk⟩)) ?_
 simp only [zD, zE, zF, zG]
 refine wpX_val (.string ⟨X1.toArray⟩) rfl (by intro W hW; obtain ⟨d0, d2, _⟩ := HCELL.out W hW; go_simp) ?_
 simp only [zD, zE, zF, zG]
 refine wpX_val (.string ⟨X1.toArray⟩) rfl (by intro W hW; obtain ⟨d0, d2, _⟩ := HCELL.out W hW; go_simp) ?_
 simp only [zD, zE, zF, zG]
 refine wpX_nil (fun W hW => ?_)
 obtain ⟨b0, k0⟩ := HX.out W hW
 clear HCELL HK HX hW c0 c1 q0 q1
 obtain ⟨c0, c1, c2, _⟩ := id b0
 go_wp2_with fail
 clear c0 c1 c2
 go_loopw [3, 17] (fun s i wr => ∃ j : Nat, j ≤ ps.length ∧ i = .int .i64 j ∧ s = .string ⟨(tjT it rq ps j).toArray⟩ ∧ Box3 wr w.heap.size (.int .i64 it) (.slice a ps.length cap) (.slice ra rq.length rc) ∧ Chg No w wr) (fun _ i _ => ps.length - (intOf i).toNat)
 case atStart => exact ⟨0, Nat.zero_le _, rfl, by rw [HX1.out], b0, k0⟩
 case round =>
  clear b0 k0
  obtain ⟨j, hj, rfl, rfl, hb3, hch⟩ := hrel
  by_cases hlt : j < ps.length
  ·obtain ⟨b, off, rfl, _, hb, hcell⟩ := HC.out (by intro e; simp [e] at hlt)
   have h7 := (hcell j hlt).step hch hb (fun e => e)
   have hplj := HPL.out j hlt
   obtain ⟨T, hTj⟩ : ∃ T, tjT it rq ps j = T := ⟨_, rfl⟩
   have hTl := HTL.out j hj
   have hsu := tjT_succ it rq ps j hlt
   rw [hTj] at hTl hsu ⊢
   obtain ⟨y, hy⟩ : ∃ y, ps.getD j dPl = y := ⟨_, rfl⟩
   rw [hy] at h7 hplj hsu
   obtain ⟨hfr, hpo, hsz⟩ := play_parts hplj
   obtain ⟨N, Z1, Z2, A0, A1, A2, A3, A4, A5, B0, B1, B2, B3, B4, eN, e1, e2, e5, ⟨ea0, ea1, ea2, ea3, ea4, ea5⟩, ⟨eb0, eb1, eb2, eb3, eb4, eb5⟩, l0, l1, l2, l3, l4, l5, m0, m1, m2, m3, m4⟩ := pl_parts T y rq (by omega) hplj HR60.out
   have HA5 : Hid (tjT it rq ps (j + 1) = A5) := Lib.hid (by rw [hsu, e5])
   have hr60' := HR60.out
   have hfr99 : 0 ≤ y.frm ∧ y.frm < 100 := by omega
   clear hcell hsu hTj hplj
   have hj0 : (0 : Int) ≤ (j : Int) := Int.natCast_nonneg _
   have hj1 : (j : Int) < (ps.length : Int) := by omega
   have hw1 : IntKind.i64.wrap ((j : Int) + 1) = (j : Int) + 1 := IntWalk.i64_in _ (by omega)
   obtain ⟨pj, hpe⟩ : ∃ pj, pf j = pj := ⟨_, rfl⟩
   obtain ⟨mj, hme⟩ : ∃ mj, mf j = mj := ⟨_, rfl⟩
   have hpj := (HL.out j hlt).1
   have hmj := (HL.out j hlt).2
   rw [hpe] at hpj h7
   rw [hme] at hmj h7
   obtain ⟨ya, yn, yc, rfl⟩ := hpj.shape
   obtain ⟨za, zn, zc, rfl⟩ := hmj.shape
   clear hpe hme hpj hmj hy
   obtain ⟨g0, g1, g2, g3, g4, g5, g6⟩ := id h7
   have kal := (Chg.refl No wr).alloc (.cells #[.int .i64 y.frm, .int .i64 y.ca.pol, .int .i64 y.ca.size, .slice ya yn yc, .slice za zn zc, .int .i64 y.ca.hand, .int .i64 y.fa] 68)
   have bp := Box7.new wr (.int .i64 y.frm) (.int .i64 y.ca.pol) (.int .i64 y.ca.size) (.slice ya yn yc) (.slice za zn zc) (.int .i64 y.ca.hand) (.int .i64 y.fa) 68
   have bt := hb3.keep kal
   have kk := hch.keep kal
   obtain ⟨t0, t1, t2, _⟩ := id bt
   obtain ⟨s0, s1, s2, _⟩ := id hb3
   have q1 := Lib.hid (fun W => decI_small y.ca.size (by omega) W)
   have q2 := Lib.hid (fun W => decI_small y.frm hfr99 W)
   rw [e1] at q1
   rw [e2] at q2
   have a0 := cat_too (P := Tryz.prog) eb0 (by omega)
   have a1 := cat_too (P := Tryz.prog) eb1 (by omega)
   have a2 := cat_too (P := Tryz.prog) eb2 (by omega)
   have a3 := cat_too (P := Tryz.prog) eb3 (by omega)
   have a4 := cat_too (P := Tryz.prog) eb4 (by omega)
   have a5 := cat_too (P := Tryz.prog) eb5 (by omega)
   clear e1 e2 e5 ea0 ea1 ea2 ea3 ea4 ea5 eb0 eb1 eb2 eb3 eb4 eb5 l0 l1 l2 l3 l4 l5 m0 m1 m2 m3 m4 hr60'
   obtain ⟨p, hp⟩ : ∃ p : Nat, y.ca.pol = (p : Int) + 1 := ⟨(y.ca.pol - 1).toNat, by omega⟩
   have hp7 : p < 7 := by omega
   have hwp : y.ca.pol - 1 = (p : Int) := by omega
   have hwr : IntKind.i64.wrap (p : Int) = (p : Int) := IntWalk.i64_in _ (by omega)
   have HPN : Hid (polL.getD p [] = N) := Lib.hid (by
    rw [← eN]; unfold polT; rw [hwp, Int.toNat_natCast])
   clear eN hp
   go_wp2_with fail
   clear t0 t1 t2 s0 s1 s2 g0 g1 g2 g3 g4 g5 g6 h7 hb3
   generalize wr.alloc (.cells #[.int .i64 y.frm, .int .i64 y.ca.pol, .int .i64 y.ca.size, .slice ya yn yc, .slice za zn zc, .int .i64 y.ca.hand, .int .i64 y.fa] 68) = V at bp bt kk ⊢
   obtain ⟨G, hG⟩ : ∃ G, wr.heap.size = G := ⟨_, rfl⟩
   rw [hG] at bp ⊢
   have HB7 : Hid (∀ W, Chg No V W → W.cell? ⟨G, 0, none⟩ = some (.int .i64 y.frm) ∧ W.cell? ⟨G, 1, none⟩ = some (.int .i64 y.ca.pol) ∧ W.cell? ⟨G, 2, none⟩ = some (.int .i64 y.ca.size) ∧ True) := Lib.hid (fun W hW => by
    obtain ⟨g0, g1, g2, _⟩ := bp.keep hW
    exact ⟨g0, g1, g2, trivial⟩)
   refine wp_region_K (S := fun W => Chg No V W) (k := 21) (by kernel_rfl) ?_
   have hS : Chg No V V.drew := (Chg.refl No V).drew
   clear kal
   have HLA1 := Lib.hid ((hw.keep kk).keep hS)
   generalize V.drew = V1 at hS HLA1 ⊢
   have qn := Lib.hid (policyNames_any V1 HLA1.out)
   refine wpAnyK_take0 0 (.string ⟨T.toArray⟩) rfl (by kernel_rfl) (fun _ _ _ h => h) hS rfl (by intro w; go_simp) ?_
   simp only [zA, zC, zD, zE, zF, zG]
   refine wpAnyK_take0 2 (.pointer (some ⟨G, 1, none⟩)) rfl (by kernel_rfl) (fun _ _ _ h => h) hS rfl (by intro w; go_simp) ?_
   simp only [zA, zB, zC, zD, zE, zF, zG]
   refine wpAnyK_take0 3 (.pointer (some ⟨G, 1, none⟩)) rfl (by kernel_rfl) (fun _ _ _ h => h) hS rfl (by intro w; go_simp) ?_
   simp only [zA, zB, zC, zD, zE, zF, zG]
   refine wpAnyK_takeT 4 (.int .i64 y.ca.pol) rfl (by kernel_rfl) (fun _ _ _ h => h) hS rfl (by intro w hSw; obtain ⟨d0, d1, d2, _⟩ := HB7.out w hSw; go_simp) ?_
   simp only [zA, zB, zC, zD, zE, zF, zG]
   refine wpAnyK_take0 5 (.int .i64 (p : Int)) rfl (by kernel_rfl) (fun _ _ _ h => h) hS rfl (by intro w; go_simp) ?_
   simp only [zA, zB, zC, zD, zE, zF, zG]
   refine wpAnyK_take0 10 (.pointer (some ⟨G, 1, none⟩)) rfl (by kernel_rfl) (fun _ _ _ h => h) hS rfl (by intro w; go_simp) ?_
   simp only [zA, zB, zC, zD, zE, zF, zG]
   refine wpAnyK_take0 11 (.pointer (some ⟨G, 2, none⟩)) rfl (by kernel_rfl) (fun _ _ _ h => h) hS rfl (by intro w; go_simp) ?_
   simp only [zA, zB, zC, zD, zE, zF, zG]
   refine wpAnyK_takeT 12 (.int .i64 y.ca.size) rfl (by kernel_rfl) (fun _ _ _ h => h) hS rfl (by intro w hSw; obtain ⟨d0, d1, d2, _⟩ := HB7.out w hSw; go_simp) ?_
   simp only [zA, zB, zC, zD, zE, zF, zG]
   refine wpAnyK_take0 16 (.pointer (some ⟨G, 0, none⟩)) rfl (by kernel_rfl) (fun _ _ _ h => h) hS rfl (by intro w; go_simp) ?_
   simp only [zA, zB, zC, zD, zE, zF, zG]
   refine wpAnyK_takeT 17 (.int .i64 y.frm) rfl (by kernel_rfl) (fun _ _ _ h => h) hS rfl (by intro w hSw; obtain ⟨d0, d1, d2, _⟩ := HB7.out w hSw; go_simp) ?_
   simp only [zA, zB, zC, zD, zE, zF, zG]
   refine wpAnyK_1 1 (by kernel_rfl) (wpOpK' rfl rfl ?_)
   intro K hK
   refine ocallR (f := 78) (args := #[]) (by go_simp) qn.out (fun W h4 => hK.out _ _ (by rw [h4]; exact hS.alloc _) ?_)
   clear hK K
   simp only [zA, zB, zC, zD, zE, zF, zG]
   have hcn := polV_cells V1 p hp7
   rw [HPN.out] at hcn
   subst h4
   have hV2 : Chg No V (V1.alloc (.cells polV.toArray 9)) := hS.alloc _
   obtain ⟨g, hg⟩ : ∃ g, V1.heap.size = g := ⟨_, rfl⟩
   have hgl : g < (V1.alloc (.cells polV.toArray 9)).heap.size := by rw [← hg]; simp
   rw [hg] at hcn ⊢
   clear hS qn HLA1
   generalize V1.alloc (.cells polV.toArray 9) = V2 at hcn hV2 hgl ⊢
   refine wpAnyK_mono (S' := fun W => Chg No V2 W) (fun W h => hV2.keep h) _ _ _ _ ?_
   have HB7 : Hid (∀ W, Chg No V2 W → W.cell? ⟨g, p, none⟩ = some (.string ⟨N.toArray⟩) ∧ True ∧ True ∧ True) := Lib.hid (fun W hW => ⟨(hW.cellD g p hgl (fun e => e)).trans hcn, trivial, trivial, trivial⟩)
   have hS : Chg No V2 V2 := Chg.refl No V2
   clear hcn
   have hp0 : (0 : Int) ≤ (p : Int) := Int.natCast_nonneg _
   have hpi : (p : Int) < 7 := by omega
   refine wpAnyK_take0 6 (.pointer (some ⟨g, p, none⟩)) rfl (by kernel_rfl) (fun _ _ _ h => h) hS rfl (by intro w; go_simp) ?_
   simp only [zA, zB, zC, zD, zE, zF, zG]
   refine wpAnyK_takeT 7 (.string ⟨N.toArray⟩) rfl (by kernel_rfl) (fun _ _ _ h => h) hS rfl (by intro w hSw; obtain ⟨d0, d1, d2, _⟩ := HB7.out w hSw; go_simp) ?_
   simp only [zA, zB, zC, zD, zE, zF, zG]
   refine wpAnyK_take0 8 (.string ⟨B0.toArray⟩) rfl (by kernel_rfl) (fun _ _ _ h => h) hS rfl (by intro w; go_simp) ?_
   simp only [zA, zB, zC, zD, zE, zF, zG]
   refine wpAnyK_take0 9 (.string ⟨B1.toArray⟩) rfl (by kernel_rfl) (fun _ _ _ h => h) hS rfl (by intro w; go_simp) ?_
   simp only [zA, zB, zC, zD, zE, zF, zG]
   refine wpAnyK_1 13 (by kernel_rfl) (wpOpK' rfl rfl ?_)
   intro K hK
   refine ocallR (f := 76) (args := #[.int .i64 y.ca.size]) (by go_simp) (q1.out _) (fun W h4 => hK.out _ _ (by rw [h4]; exact hS) ?_)
   rw [h4]
   clear h4 W
   clear hK K
   simp only [zA, zB, zC, zD, zE, zF, zG]
   refine wpAnyK_take0 14 (.string ⟨B2.toArray⟩) rfl (by kernel_rfl) (fun _ _ _ h => h) hS rfl (by intro w; go_simp) ?_
   simp only [zA, zB, zC, zD, zE, zF, zG]
   refine wpAnyK_take0 15 (.string ⟨B3.toArray⟩) rfl (by kernel_rfl) (fun _ _ _ h => h) hS rfl (by intro w; go_simp) ?_
   simp only [zA, zB, zC, zD, zE, zF, zG]
   refine wpAnyK_1 18 (by kernel_rfl) (wpOpK' rfl rfl ?_)
   intro K hK
   refine ocallR (f := 76) (args := #[.int .i64 y.frm]) (by go_simp) (q2.out _) (fun W h4 => hK.out _ _ (by rw [h4]; exact hS) ?_)
   rw [h4]
   clear h4 W
   clear hK K
   simp only [zA, zB, zC, zD, zE, zF, zG]
   refine wpAnyK_take0 19 (.string ⟨B4.toArray⟩) rfl (by kernel_rfl) (fun _ _ _ h => h) hS rfl (by intro w; go_simp) ?_
   simp only [zA, zB, zC, zD, zE, zF, zG]
   refine wpAnyK_take0 20 (.string ⟨A5.toArray⟩) rfl (by kernel_rfl) (fun _ _ _ h => h) hS rfl (by intro w; go_simp) ?_
   simp only [zA, zB, zC, zD, zE, zF, zG]
   refine wpAnyK_tail 21 rfl (by kernel_rfl) ?_
   simp only [List.drop_succ_cons, List.drop_zero]
   have kk2 := kk.keep hV2
   have bt2 := bt.keep hV2
   obtain ⟨t0, t1, t2, _⟩ := id bt2
   go_wp2_with fail
   refine ⟨⟨j + 1, by omega, by go_num, by rw [HA5.out], bt2, kk2⟩, by simp [intOf]; omega⟩
  ·have hje : j = ps.length := by omega
   subst hje
   obtain ⟨t0, t1, t2, _⟩ := id hb3
   go_wp2_with fail
   go_ret
   exact ⟨rfl, hch⟩
theorem l4NamesI (x : Int) (h : 1 ≤ x ∧ x ≤ 7) (P : Nat) (hP : x.toNat = P) (w : World) :
  Calls Tryz.prog 74 #[.int .i64 x] w fun e w' => e = .returned (.slice (some ⟨w.heap.size, P, none⟩) (8 - P) (8 - P)) ∧ w' = w.alloc (.cells (nam8.map sv).toArray 9) := by
 subst hP
 have e : x = ((x.toNat : Nat) : Int) := by omega
 have := l4Names_any x.toNat (by omega) w
 rw [← e] at this
 exact this
set_option maxHeartbeats 4000000 in
theorem l12Text_any (v : Value) (t : To) (w : World) (h : RT No w v t) (ht : tourB t = true) :
  Calls Tryz.prog 31 #[v] w fun e w' => e = .returned (.string ⟨(touT t).toArray⟩) ∧ Chg No w w' := by
 obtain ⟨it, ps, rq⟩ := t
 obtain ⟨pv, rv, rfl, hps, hrq⟩ := h
 simp only at hps hrq ⊢
 obtain ⟨hit, hr60, hr7, hreq, hp4⟩ := tour_req ht
 simp only at hit hr60 hr7 hp4
 obtain ⟨ra, rc, rfl, _⟩ := id hrq
 obtain ⟨a, cap, rfl, hcap, hmax, hlen, pf, mf, hl, hcl⟩ := id hps
 have HTL : Hid (∀ j, j ≤ ps.length → (tjT it rq ps j).length ≤ 1400 + 60 * j) := Lib.hid (tjT_len ht)
 have HPL : Hid (∀ j, j < ps.length → playB (ps.getD j dPl) rq = true) := Lib.hid (fun j hj => tour_ps ht (by rw [List.getD_eq_getElem?_getD, List.getElem?_eq_getElem hj]; exact List.getElem_mem _))
 have HFU : Hid (tjT it rq ps ps.length = touT ⟨it, ps, rq⟩) := Lib.hid (tjT_full ⟨it, ps, rq⟩)
 rw [← HFU.out]
 have HR60 := Lib.hid hr60
 have HTWO : Hid (Two rq) := Lib.hid (fun x hx => by have := hr7 x hx; omega)
 obtain ⟨Z0, hZ0⟩ : ∃ Z0, Lib.itoa it = Z0 := ⟨_, rfl⟩
 obtain ⟨R0, hR0⟩ : ∃ R0, reqT rq = R0 := ⟨_, rfl⟩
 obtain ⟨X0, hX0⟩ : ∃ X0, X0 = Z0 ++ [59, 32] := ⟨_, rfl⟩
 obtain ⟨X1, hX1⟩ : ∃ X1, X1 = X0 ++ R0 := ⟨_, rfl⟩
 have HX1 : Hid (tjT it rq ps 0 = X1) := Lib.hid (by rw [tjT_zero, hX1, hX0, hZ0, hR0])
 have hX1l : X1.length ≤ 1400 := by rw [← HX1.out]; exact HTL.out 0 (Nat.zero_le _)
 have c0 := cat_too (P := Tryz.prog) hX0 (by rw [hX1] at hX1l; simp at hX1l; omega)
 have c1 := cat_too (P := Tryz.prog) hX1 (by omega)
 have k0 := (Chg.refl No w).alloc (.cells #[.int .i64 it, .slice a ps.length cap, .slice ra rq.length rc] 31)
 have b0 := Box3.new w (.int .i64 it) (.slice a ps.length cap) (.slice ra rq.length rc) 31
 have HL := Lib.hid hl
 have HC := Lib.hid hcl
 have q0 := Lib.hid (fun W => l1NumI_any it W (by omega) (by omega))
 have q1 := Lib.hid (fun W h => l3Text_any (.slice ra rq.length rc) rq W h HTWO.out.mid)
 rw [hZ0] at q0
 rw [hR0] at q1
 have HRQ := Lib.hid (fun n => (hrq.keep k0).keep (drewN_chg' (w.alloc (.cells #[.int .i64 it, .slice a ps.length cap, .slice ra rq.length rc] 31)) n))
 clear hX0 hX1 hZ0 hR0 hreq hr7 hit ht hl hcl hrq hps hX1l
 obtain ⟨c2, c3, c4, _⟩ := id b0
 go_enter Tryz.func31, Tryz.ntmps31
 go_wp2_with fail
 go_quiet ((first | (go_at_call 72; exact Calls.quiet_of (q0.out _)) | (go_at_call 73; exact Calls.quiet_of (q1.out _ (HRQ.out _)))))
 clear c0 c1 c2 c3 c4 q0 q1 HRQ
 go_wp2_with fail
 go_loopw [3, 4] (fun s i wr => ∃ j : Nat, j ≤ ps.length ∧ i = .int .i64 j ∧ s = .string ⟨(tjT it rq ps j).toArray⟩ ∧ Box3 wr w.heap.size (.int .i64 it) (.slice a ps.length cap) (.slice ra rq.length rc) ∧ Chg No w wr) (fun _ i _ => ps.length - (intOf i).toNat)
 case atStart => exact ⟨0, Nat.zero_le _, rfl, by rw [HX1.out], b0.keep (drewN_chg' _ _), k0.trans (drewN_chg' _ _)⟩
 case round =>
  clear b0 k0
  obtain ⟨j, hj, rfl, rfl, hb3, hch⟩ := hrel
  by_cases hlt : j < ps.length
  ·obtain ⟨b, off, rfl, _, hb, hcell⟩ := HC.out (by intro e; simp [e] at hlt)
   have h7 := (hcell j hlt).step hch hb (fun e => e)
   have hplj := HPL.out j hlt
   obtain ⟨T, hTj⟩ : ∃ T, tjT it rq ps j = T := ⟨_, rfl⟩
   have hTl := HTL.out j hj
   have hsu := tjT_succ it rq ps j hlt
   rw [hTj] at hTl hsu ⊢
   obtain ⟨y, hy⟩ : ∃ y, ps.getD j dPl = y := ⟨_, rfl⟩
   rw [hy] at h7 hplj hsu
   obtain ⟨hfr, hpo, hsz⟩ := play_parts hplj
   obtain ⟨N, Z1, Z2, A0, A1, A2, A3, A4, A5, B0, B1, B2, B3, B4, eN, e1, e2, e5, ⟨ea0, ea1, ea2, ea3, ea4, ea5⟩, ⟨eb0, eb1, eb2, eb3, eb4, eb5⟩, l0, l1, l2, l3, l4, l5, m0, m1, m2, m3, m4⟩ := pl_parts T y rq (by omega) hplj HR60.out
   have HA5 : Hid (tjT it rq ps (j + 1) = A5) := Lib.hid (by rw [hsu, e5])
   have hr60' := HR60.out
   have hfr99 : 0 ≤ y.frm ∧ y.frm < 100 := by omega
   clear hcell hsu hTj hplj
   have hj0 : (0 : Int) ≤ (j : Int) := Int.natCast_nonneg _
   have hj1 : (j : Int) < (ps.length : Int) := by omega
   have hw1 : IntKind.i64.wrap ((j : Int) + 1) = (j : Int) + 1 := IntWalk.i64_in _ (by omega)
   obtain ⟨pj, hpe⟩ : ∃ pj, pf j = pj := ⟨_, rfl⟩
   obtain ⟨mj, hme⟩ : ∃ mj, mf j = mj := ⟨_, rfl⟩
   have hpj := (HL.out j hlt).1
   have hmj := (HL.out j hlt).2
   rw [hpe] at hpj h7
   rw [hme] at hmj h7
   obtain ⟨ya, yn, yc, rfl⟩ := hpj.shape
   obtain ⟨za, zn, zc, rfl⟩ := hmj.shape
   clear hpe hme hpj hmj hy
   obtain ⟨g0, g1, g2, g3, g4, g5, g6⟩ := id h7
   have kal := (Chg.refl No wr).alloc (.cells #[.int .i64 y.frm, .int .i64 y.ca.pol, .int .i64 y.ca.size, .slice ya yn yc, .slice za zn zc, .int .i64 y.ca.hand, .int .i64 y.fa] 68)
   have bp := Box7.new wr (.int .i64 y.frm) (.int .i64 y.ca.pol) (.int .i64 y.ca.size) (.slice ya yn yc) (.slice za zn zc) (.int .i64 y.ca.hand) (.int .i64 y.fa) 68
   have bt := hb3.keep kal
   have kk := hch.keep kal
   obtain ⟨t0, t1, t2, _⟩ := id bt
   obtain ⟨s0, s1, s2, _⟩ := id hb3
   have q1 := Lib.hid (fun W => l1Num_dig y.ca.size (by omega) W)
   have q2 := Lib.hid (fun W => l1NumI_any y.frm W (by omega) (by omega))
   rw [e1] at q1
   rw [e2] at q2
   have a0 := cat_too (P := Tryz.prog) ea0 (by omega)
   have a1 := cat_too (P := Tryz.prog) ea1 (by omega)
   have a2 := cat_too (P := Tryz.prog) ea2 (by omega)
   have a3 := cat_too (P := Tryz.prog) ea3 (by omega)
   have a4 := cat_too (P := Tryz.prog) ea4 (by omega)
   have a5 := cat_too (P := Tryz.prog) ea5 (by omega)
   clear e1 e2 e5 ea0 ea1 ea2 ea3 ea4 ea5 eb0 eb1 eb2 eb3 eb4 eb5 l0 l1 l2 l3 l4 l5 m0 m1 m2 m3 m4 hr60'
   obtain ⟨P, hP⟩ : ∃ P : Nat, y.ca.pol.toNat = P := ⟨_, rfl⟩
   have hP8 : 1 ≤ P ∧ P < 8 := by omega
   have HPN : Hid (nam8.getD P [] = N) := Lib.hid (by
    rw [← eN]
    have e : y.ca.pol = (P : Int) := by omega
    rw [e]
    have : P = 1 ∨ P = 2 ∨ P = 3 ∨ P = 4 ∨ P = 5 ∨ P = 6 ∨ P = 7 := by omega
    rcases this with rfl | rfl | rfl | rfl | rfl | rfl | rfl <;> rfl)
   have qn := Lib.hid (fun W => l4NamesI y.ca.pol hpo P hP W)
   clear eN hP
   go_wp2_with fail
   clear t0 t1 t2 s0 s1 s2 g0 g1 g2 g3 g4 g5 g6 h7 hb3
   generalize wr.alloc (.cells #[.int .i64 y.frm, .int .i64 y.ca.pol, .int .i64 y.ca.size, .slice ya yn yc, .slice za zn zc, .int .i64 y.ca.hand, .int .i64 y.fa] 68) = V at bp bt kk ⊢
   obtain ⟨G, hG⟩ : ∃ G, wr.heap.size = G := ⟨_, rfl⟩
   rw [hG] at bp ⊢
   have HB7 : Hid (∀ W, Chg No V W → W.cell? ⟨G, 0, none⟩ = some (.int .i64 y.frm) ∧ W.cell? ⟨G, 1, none⟩ = some (.int .i64 y.ca.pol) ∧ W.cell? ⟨G, 2, none⟩ = some (.int .i64 y.ca.size) ∧ True) := Lib.hid (fun W hW => by
    obtain ⟨g0, g1, g2, _⟩ := bp.keep hW
    exact ⟨g0, g1, g2, trivial⟩)
   refine wp_region_K (S := fun W => Chg No V W) (k := 20) (by kernel_rfl) ?_
   have hS : Chg No V V.drew := (Chg.refl No V).drew
   clear kal
   generalize V.drew = V1 at hS ⊢
   refine wpAnyK_take0 0 (.string ⟨T.toArray⟩) rfl (by kernel_rfl) (fun _ _ _ h => h) hS rfl (by intro w; go_simp) ?_
   simp only [zA, zC, zD, zE, zF, zG]
   refine wpAnyK_take0 1 (.string ⟨A0.toArray⟩) rfl (by kernel_rfl) (fun _ _ _ h => h) hS rfl (by intro w; go_simp) ?_
   simp only [zA, zB, zC, zD, zE, zF, zG]
   refine wpAnyK_take0 2 (.pointer (some ⟨G, 1, none⟩)) rfl (by kernel_rfl) (fun _ _ _ h => h) hS rfl (by intro w; go_simp) ?_
   simp only [zA, zB, zC, zD, zE, zF, zG]
   refine wpAnyK_take0 3 (.pointer (some ⟨G, 1, none⟩)) rfl (by kernel_rfl) (fun _ _ _ h => h) hS rfl (by intro w; go_simp) ?_
   simp only [zA, zB, zC, zD, zE, zF, zG]
   refine wpAnyK_takeT 4 (.int .i64 y.ca.pol) rfl (by kernel_rfl) (fun _ _ _ h => h) hS rfl (by intro w hSw; obtain ⟨d0, d1, d2, _⟩ := HB7.out w hSw; go_simp) ?_
   simp only [zA, zB, zC, zD, zE, zF, zG]
   refine wpAnyK_take0 10 (.pointer (some ⟨G, 1, none⟩)) rfl (by kernel_rfl) (fun _ _ _ h => h) hS rfl (by intro w; go_simp) ?_
   simp only [zA, zB, zC, zD, zE, zF, zG]
   refine wpAnyK_take0 11 (.pointer (some ⟨G, 2, none⟩)) rfl (by kernel_rfl) (fun _ _ _ h => h) hS rfl (by intro w; go_simp) ?_
   simp only [zA, zB, zC, zD, zE, zF, zG]
   refine wpAnyK_takeT 12 (.int .i64 y.ca.size) rfl (by kernel_rfl) (fun _ _ _ h => h) hS rfl (by intro w hSw; obtain ⟨d0, d1, d2, _⟩ := HB7.out w hSw; go_simp) ?_
   simp only [zA, zB, zC, zD, zE, zF, zG]
   refine wpAnyK_take0 16 (.pointer (some ⟨G, 0, none⟩)) rfl (by kernel_rfl) (fun _ _ _ h => h) hS rfl (by intro w; go_simp) ?_
   simp only [zA, zB, zC, zD, zE, zF, zG]
   refine wpAnyK_takeT 17 (.int .i64 y.frm) rfl (by kernel_rfl) (fun _ _ _ h => h) hS rfl (by intro w hSw; obtain ⟨d0, d1, d2, _⟩ := HB7.out w hSw; go_simp) ?_
   simp only [zA, zB, zC, zD, zE, zF, zG]
   refine wpAnyK_1 5 (by kernel_rfl) (wpOpK' rfl rfl ?_)
   intro K hK
   refine ocallR (f := 74) (args := #[.int .i64 y.ca.pol]) (by go_simp) (qn.out V1) (fun W h4 => hK.out _ _ (by rw [h4]; exact hS.alloc _) ?_)
   clear hK K
   simp only [zA, zB, zC, zD, zE, zF, zG]
   have hcn := nam8_at P hP8.2 V1
   rw [HPN.out] at hcn
   subst h4
   have hV2 : Chg No V (V1.alloc (.cells (nam8.map sv).toArray 9)) := hS.alloc _
   obtain ⟨g, hg⟩ : ∃ g, V1.heap.size = g := ⟨_, rfl⟩
   have hgl : g < (V1.alloc (.cells (nam8.map sv).toArray 9)).heap.size := by rw [← hg]; simp
   rw [hg] at hcn ⊢
   clear hS qn
   generalize V1.alloc (.cells (nam8.map sv).toArray 9) = V2 at hcn hV2 hgl ⊢
   refine wpAnyK_mono (S' := fun W => Chg No V2 W) (fun W h => hV2.keep h) _ _ _ _ ?_
   have HB7 : Hid (∀ W, Chg No V2 W → W.cell? ⟨g, P, none⟩ = some (.string ⟨N.toArray⟩) ∧ True ∧ True ∧ True) := Lib.hid (fun W hW => ⟨(hW.cellD g P hgl (fun e => e)).trans hcn, trivial, trivial, trivial⟩)
   have hS : Chg No V2 V2 := Chg.refl No V2
   clear hcn
   have hpi : (0 : Int) < ((8 - P : Nat) : Int) := by omega
   have hpn : 0 < 8 - P := by omega
   refine wpAnyK_take0 6 (.pointer (some ⟨g, P, none⟩)) rfl (by kernel_rfl) (fun _ _ _ h => h) hS rfl (by intro w; go_simp) ?_
   simp only [zA, zB, zC, zD, zE, zF, zG]
   refine wpAnyK_takeT 7 (.string ⟨N.toArray⟩) rfl (by kernel_rfl) (fun _ _ _ h => h) hS rfl (by intro w hSw; obtain ⟨d0, d1, d2, _⟩ := HB7.out w hSw; go_simp) ?_
   simp only [zA, zB, zC, zD, zE, zF, zG]
   refine wpAnyK_take0 8 (.string ⟨A1.toArray⟩) rfl (by kernel_rfl) (fun _ _ _ h => h) hS rfl (by intro w; go_simp) ?_
   simp only [zA, zB, zC, zD, zE, zF, zG]
   refine wpAnyK_take0 9 (.string ⟨A2.toArray⟩) rfl (by kernel_rfl) (fun _ _ _ h => h) hS rfl (by intro w; go_simp) ?_
   simp only [zA, zB, zC, zD, zE, zF, zG]
   refine wpAnyK_1 13 (by kernel_rfl) (wpOpK' rfl rfl ?_)
   intro K hK
   refine ocallR (f := 72) (args := #[.int .i64 y.ca.size]) (by go_simp) (q1.out _) (fun W h4 => hK.out _ _ (by rw [h4]; exact hS) ?_)
   rw [h4]
   clear h4 W
   clear hK K
   simp only [zA, zB, zC, zD, zE, zF, zG]
   refine wpAnyK_take0 14 (.string ⟨A3.toArray⟩) rfl (by kernel_rfl) (fun _ _ _ h => h) hS rfl (by intro w; go_simp) ?_
   simp only [zA, zB, zC, zD, zE, zF, zG]
   refine wpAnyK_take0 15 (.string ⟨A4.toArray⟩) rfl (by kernel_rfl) (fun _ _ _ h => h) hS rfl (by intro w; go_simp) ?_
   simp only [zA, zB, zC, zD, zE, zF, zG]
   refine wpAnyK_1 18 (by kernel_rfl) (wpOpK' rfl rfl ?_)
   intro K hK
   refine ocallR (f := 72) (args := #[.int .i64 y.frm]) (by go_simp) (q2.out _) (fun W h4 => hK.out _ _ (by obtain ⟨m, rfl⟩ := h4; exact hS.trans (drewN_chg' _ m)) ?_)
   obtain ⟨m, rfl⟩ := h4
   have hS := hS.trans (drewN_chg' V2 m)
   clear hK K
   simp only [zA, zB, zC, zD, zE, zF, zG]
   refine wpAnyK_take0 19 (.string ⟨A5.toArray⟩) rfl (by kernel_rfl) (fun _ _ _ h => h) hS rfl (by intro w; go_simp) ?_
   simp only [zA, zB, zC, zD, zE, zF, zG]
   refine wpAnyK_tail 20 rfl (by kernel_rfl) ?_
   simp only [List.drop_succ_cons, List.drop_zero]
   have kk2 := kk.keep (hV2.trans (drewN_chg' V2 m))
   have bt2 := bt.keep (hV2.trans (drewN_chg' V2 m))
   obtain ⟨t0, t1, t2, _⟩ := id bt2
   go_wp2_with fail
   refine ⟨⟨j + 1, by omega, by go_num, by rw [HA5.out], bt2, kk2⟩, by simp [intOf]; omega⟩
  ·have hje : j = ps.length := by omega
   subst hje
   obtain ⟨t0, t1, t2, _⟩ := id hb3
   go_wp2_with fail
   go_ret
   exact ⟨rfl, hch⟩
end Go.Proofs.YtdgcohoneijleaaGreatDoor
