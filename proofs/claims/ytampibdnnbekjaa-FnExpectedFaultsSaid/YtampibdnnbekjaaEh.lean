import Derived.Test.YtampibdnnbekjaaEg
/- ExpectedFaults of the program, and its law -/
namespace Go.Proofs.Ytampibdnnbekjaa
open Go.RowKit

structure EB (b : Nat) (p k : Int) (wv : Value) (W : World) : Prop where
  cp : W.cell? ⟨b, 0, none⟩ = some (.int .i64 p)
  cz : W.cell? ⟨b + 1, 0, none⟩ = some (.int .i64 k)
  cw : W.cell? ⟨b + 2, 0, none⟩ = some wv
  fr : BoxN W (b + 3) [.int .i64 0, .int .i64 0]
theorem EB.step {b : Nat} {p k : Int} {wv : Value} {W W' : World} {S : Nat → Prop} (h : EB b p k wv W) (hc : Chg S W W') (hS : ∀ q, S q → W.heap.size ≤ q) : EB b p k wv W' := by
  have l1 := World.block_lt_of_cell? _ _ h.cp
  have l2 := World.block_lt_of_cell? _ _ h.cz
  have l3 := World.block_lt_of_cell? _ _ h.cw
  have l4 := World.block_lt_of_cell? _ _ (h.fr.c 0 _ rfl)
  simp only at l1 l2 l3 l4
  exact ⟨(hc.cellD _ 0 l1 (fun e => by have := hS _ e; omega)).trans h.cp, (hc.cellD _ 0 l2 (fun e => by have := hS _ e; omega)).trans h.cz, (hc.cellD _ 0 l3 (fun e => by have := hS _ e; omega)).trans h.cw,
    h.fr.step hc (fun e => by have := hS _ e; omega)⟩
theorem EB.keep {b : Nat} {p k : Int} {wv : Value} {W W' : World} (h : EB b p k wv W) (hc : Chg No W W') : EB b p k wv W' := h.step hc (fun _ e => e.elim)
theorem EB.stepTo {b : Nat} {p k : Int} {wv : Value} {W W' : World} {bs : Nat} (h : EB b p k wv W) (hc : Chg (fun q => q = bs) W W') (hS : b + 3 < bs) : EB b p k wv W' := by
  have l1 := World.block_lt_of_cell? _ _ h.cp
  have l2 := World.block_lt_of_cell? _ _ h.cz
  have l3 := World.block_lt_of_cell? _ _ h.cw
  have l4 := World.block_lt_of_cell? _ _ (h.fr.c 0 _ rfl)
  simp only at l1 l2 l3 l4
  exact ⟨(hc.cellD _ 0 l1 (fun e => by omega)).trans h.cp, (hc.cellD _ 0 l2 (fun e => by omega)).trans h.cz, (hc.cellD _ 0 l3 (fun e => by omega)).trans h.cw,
    h.fr.step hc (fun e => by omega)⟩

set_option maxRecDepth 100000 in
set_option maxHeartbeats 4000000 in
theorem implExpected_any (n p k L : Int) (v : Value) (ws : List Int) (w : World) (hv : RI No w v ws) :
    Calls Try.prog 7 #[.int .i64 n, .int .i64 p, .int .i64 k, v, .int .i64 L] w (Ret2 fun v0 v1 w' => v0 = .agg #[.int .i64 (expV n p k ws L).num, .int .i64 (expV n p k ws L).den] ∧ v1 = .bool (expV n p k ws L).ok ∧ Chg No w w') := by
  obtain ⟨a, cap, rfl, _⟩ := id hv
  have hL := hv.len
  have kk := ((((Chg.refl No w).alloc (.cells #[.int .i64 p] 3)).alloc (.cells #[.int .i64 k] 3)).alloc (.cells #[.slice a ws.length cap] 22)).alloc (.cells #[.int .i64 0, .int .i64 0] 24)
  have hv1 := hv.keep kk
  have eb : EB w.heap.size p k (.slice a ws.length cap) ((((w.alloc (.cells #[.int .i64 p] 3)).alloc (.cells #[.int .i64 k] 3)).alloc (.cells #[.slice a ws.length cap] 22)).alloc (.cells #[.int .i64 0, .int .i64 0] 24)) := by
    have b1 := BoxN.new w #[.int .i64 p] 3
    have b2 := BoxN.new (w.alloc (.cells #[.int .i64 p] 3)) #[.int .i64 k] 3
    have b3 := BoxN.new ((w.alloc (.cells #[.int .i64 p] 3)).alloc (.cells #[.int .i64 k] 3)) #[.slice a ws.length cap] 22
    have b4 := BoxN.new (((w.alloc (.cells #[.int .i64 p] 3)).alloc (.cells #[.int .i64 k] 3)).alloc (.cells #[.slice a ws.length cap] 22)) #[.int .i64 0, .int .i64 0] 24
    simp only [World.size_alloc] at b2 b3 b4
    exact ⟨(b1.keep ((((Chg.refl No _).alloc _).alloc _).alloc _)).c 0 _ rfl, (b2.keep (((Chg.refl No _).alloc _).alloc _)).c 0 _ rfl, (b3.keep ((Chg.refl No _).alloc _)).c 0 _ rfl, b4⟩
  have hsz := kk.size
  cases hA : askedB n p k []
  · have HV := Lib.hid (expV_no (n := n) (p := p) (k := k) (ws := ws) (L := L) (by rw [expB, hA]; rfl))
    have HA := Lib.hid hA
    clear hA
    go_enter Try.func7, Try.ntmps7
    go_wp2_with fail
    refine (isRun_any No _ [] n p k _ (RI.nil No _)).mono ?_
    rintro e w1 ⟨v1, rfl, rfl, k1⟩
    replace kk := kk.keep k1
    replace eb := eb.keep k1
    replace hv1 := hv1.keep k1
    rw [show (inB p 1 7 && inB k 1 6 && (inB n 1 8 && decide (([] : List Int).length ≤ 60) && belowB n [])) = false from HA.out]
    obtain ⟨cp, cz, cw, b0⟩ := id eb
    have c00 := b0.c 0 _ rfl
    have c01 := b0.c 1 _ rfl
    have f0 := b0.fr 0
    have f1 := b0.fr 1
    go_wp2_with fail
    exact bodyPost_ret (v := .tuple #[.agg #[.int .i64 0, .int .i64 0], .bool false]) (by simp [results, Try.results7, go_sem, *]) rfl ⟨_, _, rfl, by rw [HV.out], by rw [HV.out], by first | exact kk | exact (kk.setCell (fun h => absurd h (by simp; omega)) _).setCell (fun h => absurd h (by simp; omega)) _⟩
  · have hn := asked_items hA
    cases hi : inB L 0 4
    · have HV := Lib.hid (expV_no (n := n) (p := p) (k := k) (ws := ws) (L := L) (by rw [expB, hi]; simp))
      have HA := Lib.hid hA
      have HI := Lib.hid hi
      clear hA hi
      go_enter Try.func7, Try.ntmps7
      go_wp2_with fail
      refine (isRun_any No _ [] n p k _ (RI.nil No _)).mono ?_
      rintro e w1 ⟨v1, rfl, rfl, k1⟩
      replace kk := kk.keep k1
      replace eb := eb.keep k1
      replace hv1 := hv1.keep k1
      rw [show (inB p 1 7 && inB k 1 6 && (inB n 1 8 && decide (([] : List Int).length ≤ 60) && belowB n [])) = true from HA.out]
      obtain ⟨cp, cz, cw, b0⟩ := id eb
      have c00 := b0.c 0 _ rfl
      have c01 := b0.c 1 _ rfl
      have f0 := b0.fr 0
      have f1 := b0.fr 1
      go_wp2_with fail
      refine (within_any _ _ _ _).mono ?_
      rintro e w2 ⟨rfl, rfl⟩
      rw [HI.out]
      go_wp2_with fail
      exact bodyPost_ret (v := .tuple #[.agg #[.int .i64 0, .int .i64 0], .bool false]) (by simp [results, Try.results7, go_sem, *]) rfl ⟨_, _, rfl, by rw [HV.out], by rw [HV.out], by first | exact kk | exact (kk.setCell (fun h => absurd h (by simp; omega)) _).setCell (fun h => absurd h (by simp; omega)) _⟩
    · by_cases hl : (ws.length : Int) = n
      · subst hl
        cases hg : wgB 0 ws
        · have HV := Lib.hid (expV_no (n := (ws.length : Int)) (p := p) (k := k) (ws := ws) (L := L) (by rw [expB, hA, hg]; simp))
          have HA := Lib.hid hA
          have HI := Lib.hid hi
          have HG := Lib.hid hg
          clear hA hi hg
          go_enter Try.func7, Try.ntmps7
          go_wp2_with fail
          refine (isRun_any No _ [] (ws.length : Int) p k _ (RI.nil No _)).mono ?_
          rintro e w1 ⟨v1, rfl, rfl, k1⟩
          replace kk := kk.keep k1
          replace eb := eb.keep k1
          replace hv1 := hv1.keep k1
          rw [show (inB p 1 7 && inB k 1 6 && (inB (ws.length : Int) 1 8 && decide (([] : List Int).length ≤ 60) && belowB (ws.length : Int) [])) = true from HA.out]
          obtain ⟨cp, cz, cw, b0⟩ := id eb
          have c00 := b0.c 0 _ rfl
          have c01 := b0.c 1 _ rfl
          have f0 := b0.fr 0
          have f1 := b0.fr 1
          go_wp2_with fail
          refine (within_any _ _ _ _).mono ?_
          rintro e w2 ⟨rfl, rfl⟩
          rw [HI.out]
          go_wp2_with fail
          refine (areWeights_any No _ ws 0 _ hv1).mono ?_
          rintro e w3 ⟨v3, rfl, rfl, k3⟩
          rw [HG.out]
          replace kk := kk.keep k3
          replace eb := eb.keep k3
          replace hv1 := hv1.keep k3
          clear cp cz cw c00 c01 f0 f1 b0
          obtain ⟨cp, cz, cw, b0⟩ := id eb
          have c00 := b0.c 0 _ rfl
          have c01 := b0.c 1 _ rfl
          have f0 := b0.fr 0
          have f1 := b0.fr 1
          go_wp2_with fail
          exact bodyPost_ret (v := .tuple #[.agg #[.int .i64 0, .int .i64 0], .bool false]) (by simp [results, Try.results7, go_sem, *]) rfl ⟨_, _, rfl, by rw [HV.out], by rw [HV.out], by first | exact kk | exact (kk.setCell (fun h => absurd h (by simp; omega)) _).setCell (fun h => absurd h (by simp; omega)) _⟩
        · have hn8 : ws.length ≤ 8 := by omega
          have HS := Lib.hid (wgB_sum hg hn8)
          cases hs : inB (sumW ws) 1 10
          · have HV := Lib.hid (expV_no (n := (ws.length : Int)) (p := p) (k := k) (ws := ws) (L := L) (by rw [expB, hA, hg, hs]; simp))
            have HA := Lib.hid hA
            have HI := Lib.hid hi
            have HG := Lib.hid hg
            have HSS := Lib.hid hs
            clear hA hi hg hs
            go_enter Try.func7, Try.ntmps7
            go_wp2_with fail
            refine (isRun_any No _ [] (ws.length : Int) p k _ (RI.nil No _)).mono ?_
            rintro e w1 ⟨v1, rfl, rfl, k1⟩
            replace kk := kk.keep k1
            replace eb := eb.keep k1
            replace hv1 := hv1.keep k1
            rw [show (inB p 1 7 && inB k 1 6 && (inB (ws.length : Int) 1 8 && decide (([] : List Int).length ≤ 60) && belowB (ws.length : Int) [])) = true from HA.out]
            obtain ⟨cp, cz, cw, b0⟩ := id eb
            have c00 := b0.c 0 _ rfl
            have c01 := b0.c 1 _ rfl
            have f0 := b0.fr 0
            have f1 := b0.fr 1
            go_wp2_with fail
            refine (within_any _ _ _ _).mono ?_
            rintro e w2 ⟨rfl, rfl⟩
            rw [HI.out]
            go_wp2_with fail
            refine (areWeights_any No _ ws 0 _ hv1).mono ?_
            rintro e w3 ⟨v3, rfl, rfl, k3⟩
            rw [HG.out]
            replace kk := kk.keep k3
            replace eb := eb.keep k3
            replace hv1 := hv1.keep k3
            clear cp cz cw c00 c01 f0 f1 b0
            obtain ⟨cp, cz, cw, b0⟩ := id eb
            have c00 := b0.c 0 _ rfl
            have c01 := b0.c 1 _ rfl
            have f0 := b0.fr 0
            have f1 := b0.fr 1
            go_wp2_with fail
            refine (total_any No _ ws _ hv1 HS.out).mono ?_
            rintro e w4 ⟨rfl, rfl⟩
            go_wp2_with fail
            refine (within_any _ _ _ _).mono ?_
            rintro e w5 ⟨rfl, rfl⟩
            rw [HSS.out]
            go_wp2_with fail
            exact bodyPost_ret (v := .tuple #[.agg #[.int .i64 0, .int .i64 0], .bool false]) (by simp [results, Try.results7, go_sem, *]) rfl ⟨_, _, rfl, by rw [HV.out], by rw [HV.out], by first | exact kk | exact (kk.setCell (fun h => absurd h (by simp; omega)) _).setCell (fun h => absurd h (by simp; omega)) _⟩
          · have hsr := inB_iff.1 hs
            have hLr := inB_iff.1 hi
            obtain ⟨L, rfl⟩ : ∃ m : Nat, L = (m : Int) := ⟨L.toNat, by omega⟩
            have HV := Lib.hid (expV_yes (n := (ws.length : Int)) (p := p) (k := k) (ws := ws) (L := (L : Int)) (by rw [expB, hA, hg, hs, hi]; simp))
            rw [Int.toNat_natCast] at HV
            have hok := askedB_ok hA
            have hpw := fun j hj => pow_bound (b := sumW ws) ⟨by omega, hsr.2⟩ (j := j) hj
            have HP := Lib.hid hpw
            have h9 := wgB_mem hg
            have HA := Lib.hid hA
            have HI := Lib.hid hi
            have HG := Lib.hid hg
            have HSS := Lib.hid hs
            clear hA hi hg hs hpw
            go_enter Try.func7, Try.ntmps7
            go_wp2_with fail
            refine (isRun_any No _ [] (ws.length : Int) p k _ (RI.nil No _)).mono ?_
            rintro e w1 ⟨v1, rfl, rfl, k1⟩
            replace kk := kk.keep k1
            replace eb := eb.keep k1
            replace hv1 := hv1.keep k1
            rw [show (inB p 1 7 && inB k 1 6 && (inB (ws.length : Int) 1 8 && decide (([] : List Int).length ≤ 60) && belowB (ws.length : Int) [])) = true from HA.out]
            obtain ⟨cp, cz, cw, b0⟩ := id eb
            have c00 := b0.c 0 _ rfl
            have c01 := b0.c 1 _ rfl
            have f0 := b0.fr 0
            have f1 := b0.fr 1
            go_wp2_with fail
            refine (within_any _ _ _ _).mono ?_
            rintro e w2 ⟨rfl, rfl⟩
            rw [HI.out]
            go_wp2_with fail
            refine (areWeights_any No _ ws 0 _ hv1).mono ?_
            rintro e w3 ⟨v3, rfl, rfl, k3⟩
            rw [HG.out]
            replace kk := kk.keep k3
            replace eb := eb.keep k3
            replace hv1 := hv1.keep k3
            clear cp cz cw c00 c01 f0 f1 b0
            obtain ⟨cp, cz, cw, b0⟩ := id eb
            have c00 := b0.c 0 _ rfl
            have c01 := b0.c 1 _ rfl
            have f0 := b0.fr 0
            have f1 := b0.fr 1
            go_wp2_with fail
            refine (total_any No _ ws _ hv1 HS.out).mono ?_
            rintro e w4 ⟨rfl, rfl⟩
            go_wp2_with fail
            refine (within_any _ _ _ _).mono ?_
            rintro e w5 ⟨rfl, rfl⟩
            rw [HSS.out]
            have lw := World.block_lt_of_cell? _ _ c00
            simp only at lw
            clear cp cz cw c00 c01 f0 f1 b0
            have q5 := (Chg.refl No w3).alloc (.cells #[.int .i64 0] 3)
            have b5 := BoxN.new w3 #[.int .i64 0] 3
            have hz5 : w3.heap.size < (w3.alloc (.cells #[.int .i64 0] 3)).heap.size := by rw [World.size_alloc]; omega
            have kk5 := kk.keep q5
            have eb5 := eb.keep q5
            have hv5 := hv1.keep q5
            have hri := hv.to (B := fun q => w.heap.size ≤ q) kk5 (fun _ e => e.elim) (fun q hq => .inr hq)
            obtain ⟨cp, cz, cw, b0⟩ := id eb
            go_wp2_with fail
            clear cp cz cw b0
            generalize (w3.alloc (.cells #[.int .i64 0] 3)) = W5 at q5 b5 hz5 kk5 eb5 hv5 hri ⊢
            obtain ⟨cp, cz, cw, b0⟩ := id eb5
            have hL0 : (0 : Int) ≤ (L : Int) := Int.natCast_nonneg _
            go_loop [13, 43] (fun z i => ∃ m : Nat, m ≤ L ∧ i = .int .i64 m ∧ z = .int .i64 (sumW ws ^ m)) (fun _ i => L - (intOf i).toNat)
            case atStart => exact ⟨0, Nat.zero_le _, rfl, by rw [Int.pow_zero]⟩
            case round =>
              obtain ⟨m, hm, rfl, rfl⟩ := hrel
              have hm0 : (0 : Int) ≤ (m : Int) := Int.natCast_nonneg _
              by_cases hlt : m < L
              · have hst : sumW ws ^ (m + 1) = sumW ws ^ m * sumW ws := Int.pow_succ ..
                have hb1 := HP.out (m + 1) (by omega)
                obtain ⟨z, hz⟩ : ∃ z, sumW ws ^ m = z := ⟨_, rfl⟩
                rw [hst] at hb1
                rw [hz] at hst hb1 ⊢
                have hwz : IntKind.i64.wrap (z * sumW ws) = z * sumW ws := IntWalk.i64_in _ (by omega)
                have hw1 : IntKind.i64.wrap ((m : Int) + 1) = (m : Int) + 1 := IntWalk.i64_in _ (by omega)
                have hm1 : (m : Int) < (L : Int) := by omega
                have HST := Lib.hid hst
                clear hst hz hb1
                go_wp2_with fail
                refine (total_any No _ ws _ hv5 HS.out).mono ?_
                rintro e w6 ⟨rfl, rfl⟩
                go_wp2_with fail
                go_round
                case rel => exact ⟨m + 1, hlt, by go_num, by rw [HST.out]⟩
                case measure => simp [intOf]; omega
              · have hml : m = L := by omega
                subst hml
                have hcs : sumTo (gAdd ws ws.length m (newC p k)) (ws.length ^ m) = drawnC ws (sumW ws) m (newC p k) := sum_drawn ws (by omega) m (newC p k)
                have hpL := HP.out m (by omega)
                have hp1 := pow_pos1 hsr.1 m
                have hdb := drawnC_bound hn8 h9 (W := sumW ws) HP.out m (by omega) (newC p k)
                have hbB := bB_le (L := m) (by omega)
                obtain ⟨d, hd⟩ : ∃ d, drawnC ws (sumW ws) m (newC p k) = d := ⟨_, rfl⟩
                obtain ⟨P, hP⟩ : ∃ P, sumW ws ^ m = P := ⟨_, rfl⟩
                obtain ⟨r, hr⟩ : ∃ r, mkFr d P = r := ⟨_, rfl⟩
                rw [hd, hP, hr] at HV
                rw [hd] at hcs hdb
                rw [hP] at hpL hp1 ⊢
                have HR := Lib.hid hr
                have HCS := Lib.hid hcs
                clear hd hP hr hcs
                go_wp2_with fail
                refine (sequences_any 27 _ _ _ _ ws.length m w3.heap.size (JE w.heap.size (.slice a ws.length cap) ws (gAdd ws ws.length m (newC p k)) p k (w.heap.size + 2) w3.heap.size w.heap.size (w.heap.size + 1)) W5 (by omega) hn8 (by omega) (fun x w => cfExpected _ _ _ _ x w)
                  (fun j w1 w2 S h hc hS => h.keep hc (base := W5.heap.size) (by omega) hS (by omega) hz5 (by omega) (by omega)) hz5
                  (fun j w1 v hj hJ hv => expected1_any w.heap.size _ ws p k m _ _ _ _ j v w1 (by omega) hn8 (by omega) h9 hok hj hJ hv (by omega) (by omega) (by omega) (by omega))
                  ⟨hri, cw, b5.c 0 _ rfl, cp, cz, b5.fr 0⟩).mono ?_
                rintro e w6 ⟨v6, rfl, rfl, hJ6, k6⟩
                have kk := kk5.step k6 (fun q hq hl => by omega)
                obtain ⟨cp6, cz6, cw6, b6⟩ := eb5.stepTo k6 (by omega)
                have hs6 := hJ6.cs
                rw [HCS.out] at hs6
                clear cp cz cw b0 hJ6
                go_wp2_with fail
                refine (makeFrac_any d P _ (by omega) (by omega) hp1 (by omega)).mono ?_
                rintro e w7 ⟨v0, v1, rfl, rfl, rfl, k7⟩
                rw [HR.out]
                replace kk := kk.keep k7
                replace b6 := b6.keep k7
                have c00 := b6.c 0 _ rfl
                have c01 := b6.c 1 _ rfl
                have f0 := b6.fr 0
                have f1 := b6.fr 1
                go_wp2_with fail
                exact bodyPost_ret (v := .tuple #[.agg #[.int .i64 r.num, .int .i64 r.den], .bool r.ok]) (by simp [results, Try.results7, go_sem, *]) rfl ⟨_, _, rfl, by rw [HV.out], by rw [HV.out], by first | exact kk | exact (kk.setCell (fun h => absurd h (by simp; omega)) _).setCell (fun h => absurd h (by simp; omega)) _⟩
      · have hne : ((ws.length : Int) == n) = false := by rw [beq_eq_false_iff_ne]; exact hl
        have HV := Lib.hid (expV_no (n := n) (p := p) (k := k) (ws := ws) (L := L) (by rw [expB, hA]; simp [hl]))
        have HA := Lib.hid hA
        have HI := Lib.hid hi
        clear hA hi
        go_enter Try.func7, Try.ntmps7
        go_wp2_with fail
        refine (isRun_any No _ [] n p k _ (RI.nil No _)).mono ?_
        rintro e w1 ⟨v1, rfl, rfl, k1⟩
        replace kk := kk.keep k1
        replace eb := eb.keep k1
        replace hv1 := hv1.keep k1
        rw [show (inB p 1 7 && inB k 1 6 && (inB n 1 8 && decide (([] : List Int).length ≤ 60) && belowB n [])) = true from HA.out]
        obtain ⟨cp, cz, cw, b0⟩ := id eb
        have c00 := b0.c 0 _ rfl
        have c01 := b0.c 1 _ rfl
        have f0 := b0.fr 0
        have f1 := b0.fr 1
        go_wp2_with fail
        refine (within_any _ _ _ _).mono ?_
        rintro e w2 ⟨rfl, rfl⟩
        rw [HI.out]
        go_wp2_with fail
        exact bodyPost_ret (v := .tuple #[.agg #[.int .i64 0, .int .i64 0], .bool false]) (by simp [results, Try.results7, go_sem, *]) rfl ⟨_, _, rfl, by rw [HV.out], by rw [HV.out], by first | exact kk | exact (kk.setCell (fun h => absurd h (by simp; omega)) _).setCell (fun h => absurd h (by simp; omega)) _⟩

set_option maxRecDepth 100000 in
set_option maxHeartbeats 4000000 in
theorem lawExactExpected (n p k : Int) (v : Value) (l : List Int) (L : Int) (w : World) (hv : RI No w v l) (hl : l.length ≤ 1048576) :
    Calls Try.prog 3 #[.int .i64 n, .int .i64 p, .int .i64 k, v, .int .i64 L] w fun e w' => e = .returned (.bool true) ∧ Chg No w w' := by
  obtain ⟨a, c, rfl, _⟩ := id hv
  have hle : ¬ (1048576 : Int) < (l.length : Int) := by omega
  obtain ⟨r, hr⟩ : ∃ r, expV n p k l L = r := ⟨_, rfl⟩
  have HR := Lib.hid hr
  clear hr
  go_enter Try.func3, Try.ntmps3
  go_wp2_with fail
  refine (toIntS_any No _ l w hv).mono ?_
  rintro e w1 ⟨t1, rfl, o1, k1⟩
  go_wp2_with fail
  refine (specExpected_any n p k L t1 l w1 o1.readNo).mono ?_
  rintro e w2 ⟨v0, vb, rfl, rfl, rfl, k2⟩
  rw [HR.out]
  have k12 := k1.keep k2
  have hw : w.heap.size ≤ w2.heap.size := k12.size
  go_wp2_with fail
  have ba := BoxN.new w2 #[.int .i64 r.num, .int .i64 r.den] 24
  have ka := k12.alloc (.cells #[.int .i64 r.num, .int .i64 r.den] 24)
  refine (toIntS_any No _ l _ (hv.keep ka)).mono ?_
  rintro e w3 ⟨x3, rfl, ox, k3⟩
  go_wp2_with fail
  refine (implExpected_any n p k L x3 l w3 ox.readNo).mono ?_
  rintro e w4 ⟨g0, gb, rfl, rfl, rfl, k4⟩
  rw [HR.out]
  have ox := ox.keep k4
  have kb := (ka.keep k3).keep k4
  have ba := ((ba.keep k3).keep k4).keep ((Chg.refl No w4).alloc (.cells #[.int .i64 r.num, .int .i64 r.den] 24))
  have bb := BoxN.new w4 #[.int .i64 r.num, .int .i64 r.den] 24
  have c00 := ba.c 0 _ rfl
  have c01 := ba.c 1 _ rfl
  have c10 := bb.c 0 _ rfl
  have c11 := bb.c 1 _ rfl
  go_wp2_with fail
  refine (eqFrac_same _ _ _).mono ?_
  rintro e w5 ⟨_, rfl, rfl, k5⟩
  have ox := (ox.alloc _).keep k5
  have kc := (kb.alloc _).keep k5
  clear c00 c01 c10 c11
  go_wp2_with fail
  refine (toIntS_any No _ l w5 (hv.keep kc)).mono ?_
  rintro e w6 ⟨t2, rfl, o2, k6⟩
  go_wp2_with fail
  refine (eqIntS_same No No x3 t2 l w6 (ox.keep k6).readNo o2.readNo).mono ?_
  rintro e w7 ⟨_, rfl, rfl, k7⟩
  go_wp2_with fail
  go_ret
  exact ⟨rfl, (kc.keep k6).keep k7⟩
set_option maxRecDepth 100000 in
set_option maxHeartbeats 1000000 in
theorem lawExactExpected_all (n p k L : Int) (a : Option Addr) (m q : Nat) (w : World) (hm : m ≤ 9223372036854775807) (h : m ≤ 17592186044416 → ∃ l : List Int, l.length = m ∧ RI No w (.slice a m q) l) :
    Calls Try.prog 3 #[.int .i64 n, .int .i64 p, .int .i64 k, .slice a m q, .int .i64 L] w fun e w' => e = .returned (.bool true) ∧ Chg No w w' := by
  by_cases hl : m ≤ 1048576
  · obtain ⟨l, rfl, hr⟩ := h (by omega)
    exact lawExactExpected n p k _ l L w hr hl
  · have hgt : (1048576 : Int) < (m : Int) := by omega
    clear h
    go_enter Try.func3, Try.ntmps3
    go_wp2_with fail
    go_ret
    exact ⟨rfl, Chg.refl _ _⟩
end Go.Proofs.Ytampibdnnbekjaa
