import Derived.Test.YtegipldajbkjfaaUp
import Derived.Test.YtegipldajbkjfaaCo
import Derived.Test.YtegipldajbkjfaaR
/- FnRenamedCaches: the law -/
namespace Go.Proofs.Ytegipldajbkjfaa
open Go.RowKit

set_option maxRecDepth 100000 in
theorem DrawRename_any (v : Value) (n : Nat) (w : World) (h : Code w v n) (hn : n ≤ 70001) :
    Calls Try.prog 5 #[v] w fun e w' => ∃ (m : Int) (rv tv : Value) (l tt : List Int), e = .returned (.tuple #[.int .i64 m, rv, tv]) ∧ (-100 ≤ m ∧ m ≤ 100) ∧ OI w.heap.size w' rv l ∧ OI w.heap.size w' tv tt ∧ Chg No w w' := by
  obtain ⟨a, cp, rfl⟩ := h.shape
  have k0 := (Chg.refl No w).alloc (.cells #[.slice a n cp, .int .i64 0, .int .u64 0] 39)
  have hc := Cur.new h (by omega) 39
  have q1 := Lib.hid (items_any _ _ _ _ hc (by omega))
  have hz := Lib.hid (World.size_alloc w (.cells #[.slice a n cp, .int .i64 0, .int .u64 0] 39))
  clear h hc
  go_enter Try.func5, Try.ntmps5
  go_wp2_with (first
    | (go_at_call 13; refine (q1.out).mono ?_; rintro e w1 ⟨m, rfl, hm0, hm1, hc1, hk1⟩; have hs1 := hk1.size; have hz1 := hz.out)
    | (go_at_call 14; refine (requests_any _ _ _ _ _ hc1 (by omega) (by omega)).mono ?_; rintro e w2 ⟨rv, l, rfl, ho, hl, hc2, hk2⟩; have hs2 := hk2.size)
    | (go_at_call 15; refine (order3_any _ _ _ _ _ hc2 (by omega) (by omega)).mono ?_; rintro e w3 ⟨tv, tt, rfl, ht, htl, hc3, hk3⟩))
  refine bodyPost_ret (v := .tuple #[.int .i64 m, rv, tv]) (by simp [results, Try.results5, go_sem]) rfl ?_
  exact ⟨m, rv, tv, l, tt, rfl, by omega, (ho.step hk3 (fun q hq e => by have := (ho.lt q hq).1; omega)).weak (by omega), ht.weak (by omega), k0.step ((hk1.trans hk2).trans hk3) (fun q hq hlt => by omega)⟩

set_option maxRecDepth 100000 in
theorem vAt_any (v : Value) (n : Nat) (k : Nat) (w : World) (h : Code w v n) (hn : n ≤ 70001) (hk : k ≤ 100) :
    Calls Try.prog 7 #[v, .int .i64 (k : Int)] w fun e w' => ∃ x : Int, e = .returned (.int .i64 x) ∧ 0 ≤ x ∧ x ≤ 255 ∧ w' = w := by
  obtain ⟨l, hl, ⟨a, cap, rfl, h1, h2, h3, h4, h5⟩, hx⟩ := h
  have hk0 : (0 : Int) ≤ (k : Int) := Int.natCast_nonneg _
  by_cases hlt : (k : Int) < (n : Int)
  · obtain ⟨b, off, rfl, _, hb, hcell⟩ := h5 (by omega)
    have hkl : k < l.length := by omega
    have hc := hcell k (by rw [List.length_map]; omega)
    have he : (l.map (Value.int .u8)).getD k undef = .int .u8 (l.getD k 0) := by
      rw [List.getD_eq_getElem?_getD, List.getElem?_map, List.getElem?_eq_getElem hkl, List.getD_eq_getElem?_getD, List.getElem?_eq_getElem hkl]
      rfl
    rw [he] at hc
    have hr := hx (l.getD k 0) (by
      rw [List.getD_eq_getElem?_getD, List.getElem?_eq_getElem hkl]
      exact List.getElem_mem hkl)
    obtain ⟨x, hxx⟩ : ∃ x, l.getD k 0 = x := ⟨_, rfl⟩
    rw [hxx] at hc hr
    have hw1 : IntKind.i64.wrap x = x := IntWalk.i64_in _ (by omega)
    clear hcell h5 he hxx
    go_enter Try.func7, Try.ntmps7
    go_wp2_with fail
    go_ret
    exact ⟨x, rfl, hr.1, hr.2, rfl⟩
  · have hw1 : IntKind.i64.wrap ((k : Int) * 7) = (k : Int) * 7 := IntWalk.i64_in _ (by omega)
    have hw2 : IntKind.i64.wrap ((k : Int) * 7 + (n : Int)) = (k : Int) * 7 + (n : Int) := IntWalk.i64_in _ (by omega)
    have ht := Int.tmod_eq_emod_of_nonneg (a := (k : Int) * 7 + (n : Int)) (b := 256) (by omega)
    clear h5
    go_enter Try.func7, Try.ntmps7
    go_wp2_with fail
    go_ret
    exact ⟨_, rfl, by omega, by omega, rfl⟩

/-- what the law rests on -/
theorem ren_facts {n p k : Int} {l tt : List Int} (hp : 1 ≤ p ∧ p ≤ 7) (hk : 1 ≤ k ∧ k ≤ 6) (h : renB n l tt = true) :
    askedB n p k l = true ∧ askedB n p k (l.map (renO tt)) = true ∧ places (newC p k) (l.map (renO tt)) = places (newC p k) l ∧ (tt.length : Int) = n ∧
    ∀ i, i < l.length → ((pagesTo (newC p k) (l.map (renO tt)) l.length).getD i []).length = ((pagesTo (newC p k) l l.length).getD i []).length ∧
      ∀ a ∈ (pagesTo (newC p k) l l.length).getD i [], (0 ≤ a ∧ a < n) ∧ hasB ((pagesTo (newC p k) (l.map (renO tt)) l.length).getD i []) (renO tt a) = true := by
  unfold renB at h
  rw [Bool.and_eq_true] at h
  obtain ⟨h1, h2⟩ := h
  obtain ⟨hf, hr, htl⟩ := order_inj h2
  have h3 := h1
  simp only [Bool.and_eq_true, decide_eq_true_eq, inB_iff] at h3
  have hlow : ∀ x ∈ l, 0 ≤ x ∧ x ≤ n - 1 := fun x hx => inB_iff.1 (List.all_eq_true.1 h3.2 x hx)
  have hpat : ∀ (c : Ca) (l : List Int) (j i : Nat), i < j → (pagesTo c l j).getD i [] = diffL (runC c (l.take (i + 1))).pages := fun c l j => by
    induction j with
    | zero => exact fun i hi => absurd hi (Nat.not_lt_zero _)
    | succ j ih =>
      intro i hi
      rw [pagesTo, List.getD_eq_getElem?_getD]
      by_cases e : i < j
      · rw [List.getElem?_append_left (by rw [pagesTo_len]; exact e), ← List.getD_eq_getElem?_getD]
        exact ih i e
      · have e : i = (pagesTo c l j).length := by rw [pagesTo_len]; omega
        rw [List.getElem?_append_right (by omega), e, Nat.sub_self, pagesTo_len]
        rfl
  refine ⟨?_, ?_, ?_, htl, fun i hi => ?_⟩
  · unfold askedB
    rw [h1, inB_iff.2 hp, inB_iff.2 hk]
    rfl
  · have hb : belowB n (l.map (renO tt)) = true := List.all_eq_true.2 (fun x hx => by
      obtain ⟨a, ha, rfl⟩ := List.mem_map.1 hx
      exact inB_iff.2 (hr a (hlow a ha)))
    unfold askedB
    rw [inB_iff.2 hp, inB_iff.2 hk, inB_iff.2 h3.1.1, hb, List.length_map]
    simpa using h3.1.2
  · unfold places
    rw [List.length_map]
    exact places_map hf p k l l.length (Nat.le_refl _)
  · rw [hpat _ _ _ _ hi, hpat _ _ _ _ hi]
    obtain ⟨e1, e2⟩ := held_map hf p k l (i + 1)
    refine ⟨e1, fun a ha => ⟨?_, e2 a ha⟩⟩
    rcases run_held _ _ a (diffL_mem.1 ha) with h | h
    · simp [newC] at h
    · have := hlow a (List.mem_of_mem_take h)
      omega

set_option maxRecDepth 100000 in
set_option maxHeartbeats 4000000 in
theorem law_FnRenamedCaches (v : Value) (N : Nat) (w : World) (h : Code w v N) :
    Calls Try.prog 3 #[v] w fun e w' => e = .returned (.bool true) ∧ Chg No w w' := by
  obtain ⟨a, cp, rfl⟩ := h.shape
  go_enter Try.func3, Try.ntmps3
  go_wp2_with fail
  refine (vBig_any _ _ _ h).mono ?_
  rintro e w' ⟨rfl, rfl⟩
  by_cases hbig : (65536 : Int) < (N : Int)
  · go_wp2_with fail
    go_ret
    exact ⟨rfl, Chg.refl No _⟩
  · go_wp2_with fail
    refine (DrawRename_any _ _ _ h (by omega)).mono ?_
    rintro e w1 ⟨n, rv, tv, l, tt, rfl, hn, ho, ht, k1⟩
    have hr := ho.readNo
    have htr := ht.readNo
    clear ho ht
    obtain ⟨rr, hrr⟩ : ∃ rr, (if renB n l tt then l.map (renO tt) else []) = rr := ⟨_, rfl⟩
    go_wp2_with fail
    refine (implRename_any n rv tv l tt w1 hr htr hn).mono ?_
    rw [hrr]
    rintro e w2 ⟨mv, _, rfl, rfl, om, k2⟩
    have hr := hr.keep k2
    have htr := htr.keep k2
    have kk := k1.keep k2
    have hcode := h.keep kk
    go_wp2_with fail
    refine (vAt_any _ N 5 w2 hcode (by omega) (by omega)).mono ?_
    rintro e w3 ⟨x5, rfl, h50, h51, rfl⟩
    have ht5 := Int.tmod_eq_emod_of_nonneg (a := x5) (b := 7) h50
    obtain ⟨p, hp⟩ : ∃ p, 1 + x5 % 7 = p := ⟨_, rfl⟩
    have hp17 : 1 ≤ p ∧ p ≤ 7 := by omega
    have hw5 : IntKind.i64.wrap (1 + x5 % 7) = p := by rw [hp]; exact IntWalk.i64_in _ (by omega)
    clear hp
    go_wp2_with fail
    refine (vAt_any _ N 6 _ hcode (by omega) (by omega)).mono ?_
    rintro e w3 ⟨x6, rfl, h60, h61, rfl⟩
    have ht6 := Int.tmod_eq_emod_of_nonneg (a := x6) (b := 6) h60
    obtain ⟨k, hk⟩ : ∃ k, 1 + x6 % 6 = k := ⟨_, rfl⟩
    have hk16 : 1 ≤ k ∧ k ≤ 6 := by omega
    have hw6 : IntKind.i64.wrap (1 + x6 % 6) = k := by rw [hk]; exact IntWalk.i64_in _ (by omega)
    clear hk
    go_wp2_with fail
    refine (specRename_any n rv tv l tt _ hr htr hn).mono ?_
    rintro e w3 ⟨sv, _, rfl, rfl, k3⟩
    have hr := hr.keep k3
    have htr := htr.keep k3
    have om := om.keep k3
    have kk := kk.keep k3
    clear hcode k1 k2 k3
    cases hren : renB n l tt
    · go_wp2_with fail
      go_ret
      exact ⟨rfl, kk⟩
    · obtain ⟨ha1, ha2, hpl, htl, hall⟩ := ren_facts hp17 hk16 hren
      have hrr2 : l.map (renO tt) = rr := by rw [← hrr, hren]; rfl
      rw [hrr2] at ha2 hpl hall
      have hm := om.readNo
      have hrl : rr.length = l.length := by rw [← hrr2, List.length_map]
      have HF := Lib.hid hall
      have HREN := Lib.hid (And.intro hrr (And.intro hrr2 hren))
      have l60 : l.length ≤ 60 := by
        simp only [askedB, Bool.and_eq_true, decide_eq_true_eq] at ha1
        exact ha1.2.1.2
      clear hall hrr hrr2 om hren
      obtain ⟨S, hS⟩ : ∃ S, pagesTo (newC p k) l l.length = S := ⟨_, rfl⟩
      obtain ⟨G, hG⟩ : ∃ G, pagesTo (newC p k) rr rr.length = G := ⟨_, rfl⟩
      have hG2 : pagesTo (newC p k) rr l.length = G := by rw [← hrl]; exact hG
      have hSl : S.length = l.length := by rw [← hS, pagesTo_len]
      have hGl : G.length = l.length := by rw [← hG, pagesTo_len, hrl]
      have q1 := Lib.hid (fun W (hW : RI No W rv l) => implFaultPlaces_any No n p k rv l W hW)
      have q2 := Lib.hid (fun W (hW : RI No W mv rr) => implFaultPlaces_any No n p k mv rr W hW)
      have q3 := Lib.hid (fun W (hW : RI No W rv l) => implContentsOf_any No n p k rv l W hW)
      have q4 := Lib.hid (fun W (hW : RI No W mv rr) => implContentsOf_any No n p k mv rr W hW)
      rw [ha1] at q1 q3
      rw [ha2] at q2 q4
      rw [hpl] at q2
      rw [hS] at q3
      rw [hG] at q4
      simp only [if_true] at q1 q2 q3 q4
      obtain ⟨P, hP⟩ : ∃ P, places (newC p k) l = P := ⟨_, rfl⟩
      rw [hP] at q1 q2
      have HFF : Hid (∀ i, i < l.length → (G.getD i []).length = (S.getD i []).length ∧ ∀ a ∈ S.getD i [], (0 ≤ a ∧ a < n) ∧ hasB (G.getD i []) (renO tt a) = true) := Lib.hid (fun i hi => by
        have := HF.out i hi
        rw [hS, hG2] at this
        exact this)
      clear hS hG hG2 hP hpl ha1 ha2 HF
      go_wp2_with fail
      refine (q1.out _ hr).mono ?_
      rintro e w4 ⟨av, _, rfl, rfl, oa, k4⟩
      have hr := hr.keep k4
      have htr := htr.keep k4
      have hm := hm.keep k4
      have kk := kk.keep k4
      go_wp2_with fail
      refine (q2.out _ hm).mono ?_
      rintro e w5 ⟨bv, _, rfl, rfl, ob, k5⟩
      have hr := hr.keep k5
      have htr := htr.keep k5
      have hm := hm.keep k5
      have kk := kk.keep k5
      have oa := oa.keep k5
      go_wp2_with fail
      refine (q3.out _ hr).mono ?_
      rintro e w6 ⟨xv, _, rfl, rfl, ⟨F1, ox⟩, k6⟩
      have htr := htr.keep k6
      have hm := hm.keep k6
      have kk := kk.keep k6
      have oa := oa.keep k6
      have ob := ob.keep k6
      go_wp2_with fail
      refine (q4.out _ hm).mono ?_
      rintro e w7 ⟨yv, _, rfl, rfl, ⟨F2, oy⟩, k7⟩
      have htr := htr.keep k7
      have kk := kk.keep k7
      have oa := oa.keep k7
      have ob := ob.keep k7
      have ox := ox.keep k7
      clear q1 q2 q3 q4 hr hm k4 k5 k6 k7
      go_wp2_with fail
      refine (vInts_same No No _ _ P w7 oa.readNo ob.readNo).mono ?_
      rintro e w8 ⟨_, rfl, rfl, k8⟩
      have htr := htr.keep k8
      have kk := kk.keep k8
      have rx := (ox.keep k8).readNo
      have ry := (oy.keep k8).readNo
      clear oa ob ox oy k8
      obtain ⟨sa, sc, rfl, _, _, hsv⟩ := rx.view
      obtain ⟨ga, gc, rfl, _, _, hgv⟩ := ry.view
      obtain ⟨ta, tc, rfl, _, _, _, _, htv⟩ := id htr
      have HSV := Lib.hid hsv
      have HGV := Lib.hid hgv
      have HTV := Lib.hid htv
      clear hsv hgv htv
      go_wp2_with fail
      go_loopw [20] (fun i wr => ∃ j : Nat, j ≤ l.length ∧ i = .int .i64 j ∧ Chg No w8 wr) (fun i _ => l.length - (intOf i).toNat)
      case atStart => exact ⟨0, Nat.zero_le _, rfl, Chg.refl No w8⟩
      case round =>
        obtain ⟨j, hj, rfl, hch⟩ := hrel
        by_cases hlt : j < l.length
        · obtain ⟨sb, so, sx, rfl, _, hsb, hsc, hsx⟩ := HSV.out j (by omega)
          obtain ⟨gb, gof, gx, rfl, _, hgb, hgc, hgx⟩ := HGV.out j (by omega)
          obtain ⟨hlen, hel⟩ := HFF.out j hlt
          obtain ⟨sl, hsl⟩ : ∃ sl, S.getD j [] = sl := ⟨_, rfl⟩
          obtain ⟨gl, hgl⟩ : ∃ gl, G.getD j [] = gl := ⟨_, rfl⟩
          rw [hsl] at hsx hlen hel
          rw [hgl] at hgx hlen hel
          obtain ⟨xa, xc, rfl, _, _, hxl, _, hxv⟩ := id hsx
          obtain ⟨ya, yc, rfl, _, _, _, _, _⟩ := id hgx
          rw [hlen] at hgc hgx
          have c1 := (hch.cellD _ _ hsb (fun e => e)).trans hsc
          have c2 := (hch.cellD _ _ hgb (fun e => e)).trans hgc
          have HXV := Lib.hid hxv
          have HEL := Lib.hid hel
          clear hxv hel hsl hgl
          have hj0 : (0 : Int) ≤ (j : Int) := Int.natCast_nonneg _
          have hj1 : (j : Int) < (S.length : Int) := by omega
          have hj2 : (j : Int) < (G.length : Int) := by omega
          have hw1 : IntKind.i64.wrap ((j : Int) + 1) = (j : Int) + 1 := IntWalk.i64_in _ (by omega)
          go_wp2_with fail
          go_quiet (fail)
          have hd := (Chg.refl No wr).drewN nq
          have hch := hch.keep hd
          clear c1 c2
          generalize wr.drewN nq = W1 at hd hch ⊢
          go_wp2_with fail
          go_loopw [21] (fun i wr => ∃ q : Nat, q ≤ sl.length ∧ i = .int .i64 q ∧ Chg No w8 wr) (fun i _ => sl.length - (intOf i).toNat)
          case atStart => exact ⟨0, Nat.zero_le _, rfl, hch⟩
          case round =>
            obtain ⟨q, hq, rfl, hch2⟩ := hrel
            have c1 := (hch2.cellD _ _ hsb (fun e => e)).trans hsc
            have c2 := (hch2.cellD _ _ hgb (fun e => e)).trans hgc
            by_cases hqt : q < sl.length
            · obtain ⟨xb, xo, rfl, _, hxb, hxc⟩ := HXV.out (by intro e; rw [e] at hqt; exact absurd hqt (Nat.not_lt_zero _))
              have c3 := (hch2.cellD _ _ hxb (fun e => e)).trans (hxc q hqt)
              have hz := HEL.out (sl.getD q 0) (by
                rw [List.getD_eq_getElem?_getD, List.getElem?_eq_getElem hqt]
                exact List.getElem_mem hqt)
              obtain ⟨z, hzz⟩ : ∃ z, sl.getD q 0 = z := ⟨_, rfl⟩
              rw [hzz] at c3 hz
              obtain ⟨i3, rfl⟩ : ∃ i3 : Nat, z = (i3 : Int) := ⟨z.toNat, by omega⟩
              have hit : i3 < tt.length := by omega
              obtain ⟨tb, tof, rfl, _, htb, htc⟩ := HTV.out (by intro e; rw [e] at hit; exact absurd hit (Nat.not_lt_zero _))
              have c4 := (hch2.cellD _ _ htb (fun e => e)).trans (htc i3 hit)
              have hre : renO tt (i3 : Int) = tt.getD i3 0 := by
                unfold renO
                rw [if_pos (by omega), Int.toNat_natCast]
              obtain ⟨y, hy⟩ : ∃ y, tt.getD i3 0 = y := ⟨_, rfl⟩
              rw [hy] at c4 hre
              rw [hre] at hz
              have hhas := hz.2
              have hz1 : (0 : Int) ≤ (i3 : Int) := Int.natCast_nonneg _
              have hz2 : (i3 : Int) < (tt.length : Int) := by omega
              have hq0 : (0 : Int) ≤ (q : Int) := Int.natCast_nonneg _
              have hq1 : (q : Int) < (sl.length : Int) := by omega
              have hw2 : IntKind.i64.wrap ((q : Int) + 1) = (q : Int) + 1 := IntWalk.i64_in _ (by omega)
              have v1 := Lib.hid (fun W (hW : Chg No wr W) => vHas_any No _ gl y W ((hgx.keep hch2).keep hW))
              rw [hhas] at v1
              clear hxc htc hre hy hzz hz hhas
              go_wp2_with fail
              go_quiet ((go_at_call 12; with_reducible exact quiet_sym (v1.out _ ((Chg.refl No wr).drewN _))))
              have hd2 := (Chg.refl No wr).drewN nq
              have hch3 := hch2.keep hd2
              clear c1 c2 c3 c4
              generalize wr.drewN nq = W2 at hd2 hch3 ⊢
              go_wp2_with fail
              go_round
              case rel => exact ⟨q + 1, hqt, by go_num, hch3⟩
              case measure => simp [intOf]; omega
            · have hqe : q = sl.length := by omega
              subst hqe
              go_wp2_with fail
              go_round
              case rel => exact ⟨j + 1, hlt, by go_num, hch2⟩
              case measure => simp [intOf]; omega
        · have hjl : j = l.length := by omega
          subst hjl
          go_wp2_with fail
          go_ret
          exact ⟨rfl, kk.keep hch⟩
end Go.Proofs.Ytegipldajbkjfaa
