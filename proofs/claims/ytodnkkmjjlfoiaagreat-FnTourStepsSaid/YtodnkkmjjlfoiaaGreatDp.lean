import Derived.Test.YtodnkkmjjlfoiaaGreatDo
/- PlaySteps (reference) -/
namespace Go.Proofs.YtodnkkmjjlfoiaaGreat
open Go.RowKit

/-- behind the first j steps -/
noncomputable def iterT (t : To) (ss : List St3) : Nat → To
  | 0 => t
  | j + 1 => stepT (iterT t ss j) (ss.getD j dSt).k (ss.getD j dSt).a (ss.getD j dSt).b
def okAt (t : To) (s : St3) : Bool := okStep t s.k s.a s.b
/-- the first step that is not possible, or the number of all -/
def PlayEnd (t : To) (ss : List St3) (m : Nat) : Prop := m ≤ ss.length ∧ (∀ i, i < m → okAt (iterT t ss i) (ss.getD i dSt) = true) ∧ (m < ss.length → okAt (iterT t ss m) (ss.getD m dSt) = false)
theorem playEnd_ex (t : To) (ss : List St3) : ∀ d j, ss.length - j = d → j ≤ ss.length → (∀ i, i < j → okAt (iterT t ss i) (ss.getD i dSt) = true) → ∃ m, PlayEnd t ss m
  | 0, j, hd, hj, h => ⟨j, hj, h, fun hlt => by omega⟩
  | d + 1, j, hd, hj, h => by
    cases hk : okAt (iterT t ss j) (ss.getD j dSt)
    · exact ⟨j, hj, h, fun _ => hk⟩
    · exact playEnd_ex t ss d (j + 1) (by omega) (by omega) (fun i hi => by
        by_cases e : i = j
        · rw [e]; exact hk
        · exact h i (by omega))
noncomputable def playN (t : To) (ss : List St3) : Nat := Classical.choose (playEnd_ex t ss ss.length 0 (by omega) (Nat.zero_le _) (fun i hi => absurd hi (Nat.not_lt_zero i)))
theorem playN_spec (t : To) (ss : List St3) : PlayEnd t ss (playN t ss) := Classical.choose_spec (playEnd_ex t ss ss.length 0 (by omega) (Nat.zero_le _) (fun i hi => absurd hi (Nat.not_lt_zero i)))
theorem playEnd_uni {t : To} {ss : List St3} {m m' : Nat} (h : PlayEnd t ss m) (h' : PlayEnd t ss m') : m = m' := by
  obtain ⟨a1, a2, a3⟩ := h
  obtain ⟨b1, b2, b3⟩ := h'
  rcases Nat.lt_trichotomy m m' with e | e | e
  · have := b2 m e; rw [a3 (by omega)] at this; cases this
  · exact e
  · have := a2 m' e; rw [b3 (by omega)] at this; cases this
theorem iterT_valid {t : To} (ht : tourB t = true) {ss : List St3} : ∀ j, (∀ i, i < j → okAt (iterT t ss i) (ss.getD i dSt) = true) → tourB (iterT t ss j) = true
  | 0, _ => ht
  | j + 1, h => tour_step (iterT_valid ht j (fun i hi => h i (by omega))) _ _ _ (h j (by omega))
noncomputable def plT (t : To) (ss : List St3) : To := if tourB t then iterT t ss (playN t ss) else zeroT
noncomputable def plN (t : To) (ss : List St3) : Int := if tourB t then (playN t ss : Int) else 0
set_option maxRecDepth 100000 in
set_option maxHeartbeats 8000000 in
theorem specPlay_any (v vs : Value) (t : To) (ss : List St3) (w : World) (h : RT No w v t) (hss : RSS No w vs ss) (ok : Bool) (hO : tourB t = ok) (nv : Int) (hN : plN t ss = nv) (tv : To) (hV : plT t ss = tv) :
    Calls Tryz.prog 8 #[v, vs] w fun e w' => ∃ v0, e = .returned (.tuple #[v0, .int .i64 nv, .bool ok]) ∧ TA w.heap.size w' v0 tv ∧ Chg No w w' := by
  have h0 := h
  cases ht : tourB t
  · have HO : Hid (ok = false) := Lib.hid (by rw [← hO, ht])
    have HN : Hid (nv = 0) := Lib.hid (by rw [← hN, plN, ht]; rfl)
    have HV : Hid (tv = zeroT) := Lib.hid (by rw [← hV, plT, ht]; rfl)
    have HT := Lib.hid ht
    have hok : ok = false := HO.out
    subst hok
    clear hO hN hV ht HO
    obtain ⟨it, ps, rq⟩ := t
    obtain ⟨pv, qv, rfl, hps, hrq⟩ := h
    simp only at hps hrq
    obtain ⟨qa, qn, qc, rfl⟩ := hrq.shape
    obtain ⟨pa, cap, rfl, hcap, hmax, hlen, pf, mf, hl, hcl⟩ := id hps
    obtain ⟨kk, b0, b2⟩ := boxes32 (w := w) (t := 31) (t' := 31) (x0 := .int .i64 it) (x1 := .slice pa ps.length cap) (x2 := .slice qa qn qc) (y0 := .int .i64 0) (y1 := .slice none 0 0) (y2 := .slice none 0 0)
      (R := fun W => Chg No w W ∧ Box3 W w.heap.size (.int .i64 it) (.slice pa ps.length cap) (.slice qa qn qc) ∧ Box3 W (w.heap.size + 1) (.int .i64 0) (.slice none 0 0) (.slice none 0 0)) (fun W k b0 b1 => ⟨k, b0, b1⟩)
    obtain ⟨c0, c1, c2, _⟩ := id b0
    obtain ⟨sa, sc, rfl, hsc, hscm, hsn, hsc4⟩ := id hss
    have HSC := Lib.hid hsc4
    have HRQ := Lib.hid hrq
    clear hl hcl hps hrq hsc4
    go_enter Tryz.func8, Tryz.ntmps8
    go_wp2_with fail
    refine (l12Tour_any _ _ _ (h0.keep kk)).mono ?_
    rintro e w3 ⟨_, rfl, rfl, k3⟩
    rw [HT.out]
    clear c0 c1 c2
    replace b2 := b2.keep k3
    replace kk := kk.keep k3
    obtain ⟨e0, e1, e2, cf⟩ := id b2
    have cf0 := cf 0
    have cf1 := cf 1
    have cf2 := cf 2
    clear cf
    have hb2l := b2.lt
    obtain ⟨z0, z1, z2, _⟩ := ((b2.set0 (.int .i64 0)).set1 (.slice none 0 0)).set2 (.slice none 0 0)
    have HK := Lib.hid (kk.put3 (b := w.heap.size + 1) (fun h => by omega) (.int .i64 0) (.slice none 0 0) (.slice none 0 0))
    clear kk b2
    go_wp2_with fail
    exact bodyPost_ret (v := .tuple #[.agg #[.int .i64 0, .slice none 0 0, .slice none 0 0], .int .i64 0, .bool false]) (by simp [results, Tryz.results8, go_sem, z0, z1, z2]) rfl ⟨_, by rw [HN.out], by rw [HV.out]; exact TA.zero _ _, HK.out⟩
  · have HN : Hid (nv = (playN t ss : Int)) := Lib.hid (by rw [← hN, plN, ht]; rfl)
    have HV : Hid (tv = iterT t ss (playN t ss)) := Lib.hid (by rw [← hV, plT, ht]; rfl)
    have hok : ok = true := by rw [← hO, ht]
    subst hok
    have HT := Lib.hid ht
    have HSV := Lib.hid (sv_of ht)
    have hself : againP t.ps t.reqs = t.ps := again_self ht
    have HSELF := Lib.hid hself
    clear hO hN hV ht hself
    obtain ⟨t0, ht0⟩ : ∃ t0, t = t0 := ⟨_, rfl⟩
    obtain ⟨it, ps, rq⟩ := t
    obtain ⟨pv, qv, rfl, hps, hrq⟩ := h
    simp only at hps hrq
    obtain ⟨qa, qn, qc, rfl⟩ := hrq.shape
    obtain ⟨pa, cap, rfl, hcap, hmax, hlen, pf, mf, hl, hcl⟩ := id hps
    obtain ⟨kk, b0, b2⟩ := boxes32 (w := w) (t := 31) (t' := 31) (x0 := .int .i64 it) (x1 := .slice pa ps.length cap) (x2 := .slice qa qn qc) (y0 := .int .i64 0) (y1 := .slice none 0 0) (y2 := .slice none 0 0)
      (R := fun W => Chg No w W ∧ Box3 W w.heap.size (.int .i64 it) (.slice pa ps.length cap) (.slice qa qn qc) ∧ Box3 W (w.heap.size + 1) (.int .i64 0) (.slice none 0 0) (.slice none 0 0)) (fun W k b0 b1 => ⟨k, b0, b1⟩)
    obtain ⟨c0, c1, c2, _⟩ := id b0
    obtain ⟨sa, sc, rfl, hsc, hscm, hsn, hsc4⟩ := id hss
    have HSC := Lib.hid hsc4
    have HRQ := Lib.hid hrq
    clear hl hcl hps hrq hsc4
    go_enter Tryz.func8, Tryz.ntmps8
    go_wp2_with fail
    refine (l12Tour_any _ _ _ (h0.keep kk)).mono ?_
    rintro e w3 ⟨_, rfl, rfl, k3⟩
    rw [HT.out]
    clear c0 c1 c2
    replace b0 := b0.keep k3
    replace b2 := b2.keep k3
    replace kk := kk.keep k3
    obtain ⟨c0, c1, c2, _⟩ := id b0
    go_wp2_with fail
    refine (l12With_any _ _ ⟨it, ps, rq⟩ rq w3 (h0.keep kk) (HRQ.out.keep kk) HSV.out).mono ?_
    rintro e w4 ⟨v4, rfl, hTA, k4⟩
    clear c0 c1 c2
    have hb2 := b2.lt
    have hTA0 : TA w3.heap.size w4 v4 t0 := by rw [← ht0]; have e := HSELF.out; simp only at e hTA; rw [e] at hTA; exact hTA
    obtain ⟨p1, p2, p3, r1, r2, r3, rfl, _⟩ := hTA0.put3i (b := w.heap.size) (by omega)
    have hz4 := k4.size
    have b7 := Box3.new w4 (.int .i64 t0.items) (.slice p1 p2 p3) (.slice r1 r2 r3) 31
    have ka := (Chg.refl No w4).alloc (.cells #[.int .i64 t0.items, .slice p1 p2 p3, .slice r1 r2 r3] 31)
    replace b2 := (b2.keep k4).keep ka
    replace kk := (kk.keep k4).keep ka
    have hTA1 := (hTA0.keep ka).weak (base' := w.heap.size + 2) (by omega)
    clear hTA hTA0 b0 k3 k4
    have HH := Lib.hid (And.intro b7 (And.intro b2 (And.intro kk hTA1)))
    clear b7 b2 kk hTA1 ka
    go_wp2_with fail
    obtain ⟨b7, b2, kk, hTA⟩ := HH.out
    obtain ⟨B7, hB7⟩ : ∃ B7, w4.heap.size = B7 := ⟨_, rfl⟩
    rw [hB7] at b7 ⊢
    have hB7h : w.heap.size + 1 < B7 := by omega
    clear HH
    generalize w4.alloc (.cells #[.int .i64 t0.items, .slice p1 p2 p3, .slice r1 r2 r3] 31) = W5 at b7 b2 kk hTA ⊢
    obtain ⟨c0, c1, c2, _⟩ := id b7
    have hP := playN_spec t0 ss
    have HP := Lib.hid hP
    clear hP
    go_wp2_with fail
    go_loopw [8] (fun i wr => ∃ (j : Nat) (p1 p2 p3 : _) (r1 r2 r3 : _), j ≤ playN t0 ss ∧ i = .int .i64 (j : Int) ∧ Box3 wr B7 (.int .i64 (iterT t0 ss j).items) (.slice p1 p2 p3) (.slice r1 r2 r3) ∧
      TA (w.heap.size + 2) wr (.agg #[.int .i64 (iterT t0 ss j).items, .slice p1 p2 p3, .slice r1 r2 r3]) (iterT t0 ss j) ∧ Box3 wr (w.heap.size + 1) (.int .i64 0) (.slice none 0 0) (.slice none 0 0) ∧ Chg No w wr) (fun i _ => ss.length - (intOf i).toNat)
    case atStart => exact ⟨0, _, _, _, _, _, _, Nat.zero_le _, rfl, b7, hTA, b2, kk⟩
    case round =>
      clear b7 b2 kk hTA c0 c1 c2
      obtain ⟨j, p1, p2, p3, r1, r2, r3, hj, rfl, b7, hTA, b2, kk⟩ := hrel
      have hv := iterT_valid (t := t0) (by rw [← ht0]; exact HT.out) (ss := ss) j (fun i hi => HP.out.2.1 i (by omega))
      obtain ⟨u, hu⟩ : ∃ u, iterT t0 ss j = u := ⟨_, rfl⟩
      have HU := Lib.hid hu
      rw [hu] at b7 hTA hv
      by_cases hlt : j < ss.length
      · obtain ⟨b, off, rfl, _, hb, hcell⟩ := HSC.out (by intro e; simp [e] at hlt)
        have h3 := (hcell j hlt).step kk hb (fun e => e)
        have hbr := Nat.lt_of_lt_of_le hb kk.size
        obtain ⟨y, hy⟩ : ∃ y, ss.getD j dSt = y := ⟨_, rfl⟩
        rw [hy] at h3
        have HY := Lib.hid hy
        have hj0 : (0 : Int) ≤ (j : Int) := Int.natCast_nonneg _
        have hj1 : (j : Int) < (ss.length : Int) := by omega
        have hB7l := b7.lt
        obtain ⟨k7, hk7⟩ : ∃ x, u.items = x := ⟨_, rfl⟩
        rw [hk7] at b7 hTA
        have HBOX : Hid (∀ W, Chg No wr W → (W.cell? ⟨B7, 0, none⟩ = some (.int .i64 k7) ∧ W.cell? ⟨B7, 1, none⟩ = some (.slice p1 p2 p3) ∧ W.cell? ⟨B7, 2, none⟩ = some (.slice r1 r2 r3) ∧
            W.cell? ⟨b, off + j * 3, none⟩ = some (.int .i64 y.k) ∧ W.cell? ⟨b, off + j * 3 + 1, none⟩ = some (.int .i64 y.a) ∧ W.cell? ⟨b, off + j * 3 + 2, none⟩ = some (.int .i64 y.b))) := Lib.hid (fun W hW => by
          obtain ⟨e0, e1, e2, _⟩ := b7.keep hW
          obtain ⟨f0, f1, f2⟩ := h3.step hW hbr (fun e => e)
          exact ⟨e0, e1, e2, f0, f1, f2⟩)
        have HMAY : Hid (∀ W, Chg No wr W → Calls Tryz.prog 41 #[.agg #[.int .i64 k7, .slice p1 p2 p3, .slice r1 r2 r3], stV y.k y.a y.b] W (Ret fun r w' => r = .bool (okStep u y.k y.a y.b) ∧ Chg No W w')) := Lib.hid (fun W hW =>
          l12May_any _ u y.k y.a y.b W ((hTA.keep hW).rt (by have := (tour_len hv).1; omega) (fun _ _ e => e)) hv)
        obtain ⟨BB, hBB⟩ : ∃ BB, okStep u y.k y.a y.b = BB := ⟨_, rfl⟩
        rw [hBB] at HMAY
        unfold stV at HMAY
        have HBB := Lib.hid hBB
        clear hu hy hcell hBB
        go_wp2_with fail
        refine wp_region_X (fun W => Chg No wr W) (by kernel_rfl) (by kernel_rfl) ((Chg.refl No wr).drew) ?_
        refine wpX_val (.int .i64 (j : Int)) rfl (by intro W hW; obtain ⟨c0, c1, c2, d0, d1, d2⟩ := HBOX.out W hW; go_simp) ?_
        simp only [Act.put, List.setIfInBounds_toArray, List.set_cons_zero, List.set_cons_succ]
        refine wpX_val (.slice (some ⟨b, off, none⟩) ss.length sc) rfl (by intro W hW; obtain ⟨c0, c1, c2, d0, d1, d2⟩ := HBOX.out W hW; go_simp) ?_
        simp only [Act.put, List.setIfInBounds_toArray, List.set_cons_zero, List.set_cons_succ]
        refine wpX_val (.int .i64 (ss.length : Int)) rfl (by intro W hW; obtain ⟨c0, c1, c2, d0, d1, d2⟩ := HBOX.out W hW; go_simp) ?_
        simp only [Act.put, List.setIfInBounds_toArray, List.set_cons_zero, List.set_cons_succ]
        refine wpX_val (.bool true) rfl (by intro W hW; obtain ⟨c0, c1, c2, d0, d1, d2⟩ := HBOX.out W hW; go_simp) ?_
        simp only [Act.put, List.setIfInBounds_toArray, List.set_cons_zero, List.set_cons_succ]
        refine wpX_val (.bool true) rfl (by intro W hW; obtain ⟨c0, c1, c2, d0, d1, d2⟩ := HBOX.out W hW; go_simp) ?_
        simp only [Act.put, List.setIfInBounds_toArray, List.set_cons_zero, List.set_cons_succ]
        refine wpX_val (.agg #[.int .i64 k7, .slice p1 p2 p3, .slice r1 r2 r3]) rfl (by intro W hW; obtain ⟨c0, c1, c2, d0, d1, d2⟩ := HBOX.out W hW; go_simp) ?_
        simp only [Act.put, List.setIfInBounds_toArray, List.set_cons_zero, List.set_cons_succ]
        refine wpX_val (.slice (some ⟨b, off, none⟩) ss.length sc) rfl (by intro W hW; obtain ⟨c0, c1, c2, d0, d1, d2⟩ := HBOX.out W hW; go_simp) ?_
        simp only [Act.put, List.setIfInBounds_toArray, List.set_cons_zero, List.set_cons_succ]
        refine wpX_val (.int .i64 (j : Int)) rfl (by intro W hW; obtain ⟨c0, c1, c2, d0, d1, d2⟩ := HBOX.out W hW; go_simp) ?_
        simp only [Act.put, List.setIfInBounds_toArray, List.set_cons_zero, List.set_cons_succ]
        refine wpX_val (.pointer (some ⟨b, off + j * 3, none⟩)) rfl (by intro W hW; obtain ⟨c0, c1, c2, d0, d1, d2⟩ := HBOX.out W hW; go_simp) ?_
        simp only [Act.put, List.setIfInBounds_toArray, List.set_cons_zero, List.set_cons_succ]
        refine wpX_val (.agg #[.int .i64 y.k, .int .i64 y.a, .int .i64 y.b]) rfl (by intro W hW; obtain ⟨c0, c1, c2, d0, d1, d2⟩ := HBOX.out W hW; go_simp) ?_
        simp only [Act.put, List.setIfInBounds_toArray, List.set_cons_zero, List.set_cons_succ]
        refine wpX_call (.bool BB) (f := 41) (args := #[.agg #[.int .i64 k7, .slice p1 p2 p3, .slice r1 r2 r3], .agg #[.int .i64 y.k, .int .i64 y.a, .int .i64 y.b]]) rfl (by intro W hW; go_simp) (fun W hW => (HMAY.out W hW).mono (by rintro e w' ⟨_, rfl, rfl, k⟩; exact ⟨rfl, hW.trans k⟩)) ?_
        simp only [Act.put, List.setIfInBounds_toArray, List.set_cons_zero, List.set_cons_succ]
        refine wpX_val (.bool BB) rfl (by intro W hW; obtain ⟨c0, c1, c2, d0, d1, d2⟩ := HBOX.out W hW; go_simp) ?_
        simp only [Act.put, List.setIfInBounds_toArray, List.set_cons_zero, List.set_cons_succ]
        refine wpX_nil ?_
        intro W hW
        replace b7 := b7.keep hW
        replace hTA := hTA.keep hW
        replace b2 := b2.keep hW
        replace kk := kk.keep hW
        replace h3 := h3.step hW hbr (fun e => e)
        clear HBOX HMAY hb hbr
        cases BB
        · have hjE : j = playN t0 ss := playEnd_uni ⟨by omega, fun i hi => HP.out.2.1 i (by omega), fun _ => by rw [HU.out, HY.out]; exact HBB.out⟩ HP.out
          have HNJ : Hid (nv = (j : Int)) := Lib.hid (by rw [HN.out, ht0, ← hjE])
          have HVU : Hid (tv = u) := Lib.hid (by rw [HV.out, ht0, ← hjE, HU.out])
          clear hjE h3
          obtain ⟨e0, e1, e2, cf⟩ := id b2
          have cf0 := cf 0
          have cf1 := cf 1
          have cf2 := cf 2
          clear cf
          have hb2l := b2.lt
          obtain ⟨z0, z1, z2, _⟩ := ((b2.set0 (.int .i64 k7)).set1 (.slice p1 p2 p3)).set2 (.slice r1 r2 r3)
          have hTS := hTA.stepB (b := w.heap.size + 1) (by omega) (.int .i64 k7) (.slice p1 p2 p3) (.slice r1 r2 r3)
          have HK := Lib.hid (kk.put3 (b := w.heap.size + 1) (fun h => by omega) (.int .i64 k7) (.slice p1 p2 p3) (.slice r1 r2 r3))
          have HTN := Lib.hid (hTS.weak (base' := w.heap.size) (by omega))
          obtain ⟨c0, c1, c2, _⟩ := id b7
          clear hTA hTS kk b2 b7
          go_wp2_with fail
          exact bodyPost_ret (v := .tuple #[.agg #[.int .i64 k7, .slice p1 p2 p3, .slice r1 r2 r3], .int .i64 (j : Int), .bool true]) (by simp [results, Tryz.results8, go_sem, z0, z1, z2]) rfl ⟨_, by rw [HNJ.out], by rw [HVU.out]; exact HTN.out, HK.out⟩
        · have hjL : j + 1 ≤ playN t0 ss := by
            rcases Nat.lt_or_ge j (playN t0 ss) with h | h
            · exact h
            · exfalso
              have e : j = playN t0 ss := by omega
              have h5 := HP.out.2.2 (by omega)
              rw [← e, HU.out, HY.out] at h5
              unfold okAt at h5
              rw [HBB.out] at h5
              cases h5
          obtain ⟨f0, f1, f2⟩ := id h3
          obtain ⟨c0, c1, c2, cf⟩ := id b7
          go_wp2_with fail
          clear c0 c1 c2 cf f0 f1 f2
          have hbW := World.block_lt_of_cell? W _ h3.c0
          have hB7W := b7.lt
          refine wp_region_K (S := (fun W : World => W.cell? ⟨B7, 0, none⟩ = some (.int .i64 k7) ∧ W.cell? ⟨B7, 1, none⟩ = some (.slice p1 p2 p3) ∧ W.cell? ⟨B7, 2, none⟩ = some (.slice r1 r2 r3) ∧ W.cell? ⟨b, off + j * 3, none⟩ = some (.int .i64 y.k) ∧ W.cell? ⟨b, off + j * 3 + 1, none⟩ = some (.int .i64 y.a) ∧ W.cell? ⟨b, off + j * 3 + 2, none⟩ = some (.int .i64 y.b))) (k := 6) (by kernel_rfl) ?_
          have kd := (Chg.refl No W).drew
          replace b7 := b7.keep kd
          replace b2 := b2.keep kd
          replace kk := kk.keep kd
          replace hTA := hTA.keep kd
          replace h3 := h3.step kd hbW (fun e => e)
          have hB71 := b7.lt
          generalize W.drew = W1 at kd b7 b2 kk hTA h3 hB71 ⊢
          obtain ⟨g0, g1, g2, _⟩ := id b7
          obtain ⟨q0, q1, q2⟩ := id h3
          have hS : (fun W : World => W.cell? ⟨B7, 0, none⟩ = some (.int .i64 k7) ∧ W.cell? ⟨B7, 1, none⟩ = some (.slice p1 p2 p3) ∧ W.cell? ⟨B7, 2, none⟩ = some (.slice r1 r2 r3) ∧ W.cell? ⟨b, off + j * 3, none⟩ = some (.int .i64 y.k) ∧ W.cell? ⟨b, off + j * 3 + 1, none⟩ = some (.int .i64 y.a) ∧ W.cell? ⟨b, off + j * 3 + 2, none⟩ = some (.int .i64 y.b)) W1 := ⟨g0, g1, g2, q0, q1, q2⟩
          clear g0 g1 g2 q0 q1 q2
          refine wpAnyK_take 0 (.agg #[.int .i64 k7, .slice p1 p2 p3, .slice r1 r2 r3]) rfl (by kernel_rfl) (fun _ _ _ h => h) hS rfl (by rintro w ⟨c0, c1, c2, d0, d1, d2⟩; go_simp) ?_
          simp only [List.getElem_toArray, List.getElem_cons_zero, Act.put, List.setIfInBounds_toArray, List.set_cons_zero, List.set_cons_succ]
          refine wpAnyK_take0 1 (.slice (some ⟨b, off, none⟩) ss.length sc) rfl (by kernel_rfl) (fun _ _ _ h => h) hS rfl (by intro w; go_simp) ?_
          simp only [List.getElem_toArray, List.getElem_cons_succ, List.getElem_cons_zero, Act.put, List.setIfInBounds_toArray, List.set_cons_zero, List.set_cons_succ]
          refine wpAnyK_take0 2 (.int .i64 (j : Int)) rfl (by kernel_rfl) (fun _ _ _ h => h) hS rfl (by intro w; go_simp) ?_
          simp only [List.getElem_toArray, List.getElem_cons_succ, List.getElem_cons_zero, Act.put, List.setIfInBounds_toArray, List.set_cons_zero, List.set_cons_succ]
          refine wpAnyK_take 3 (.pointer (some ⟨b, off + j * 3, none⟩)) rfl (by kernel_rfl) (fun _ _ _ h => h) hS rfl (by rintro w _; go_simp) ?_
          simp only [List.getElem_toArray, List.getElem_cons_succ, List.getElem_cons_zero, Act.put, List.setIfInBounds_toArray, List.set_cons_zero, List.set_cons_succ]
          refine wpAnyK_take 4 (.agg #[.int .i64 y.k, .int .i64 y.a, .int .i64 y.b]) rfl (by kernel_rfl) (fun _ _ _ h => h) hS rfl (by rintro w ⟨c0, c1, c2, d0, d1, d2⟩; go_simp) ?_
          simp only [List.getElem_toArray, List.getElem_cons_succ, List.getElem_cons_zero, Act.put, List.setIfInBounds_toArray, List.set_cons_zero, List.set_cons_succ]
          refine wpAnyK_1 5 (by kernel_rfl) (wpOpK' rfl rfl ?_)
          intro K0 hK0
          have hmk := l12Make_any (.agg #[.int .i64 k7, .slice p1 p2 p3, .slice r1 r2 r3]) u y.k y.a y.b W1 (hTA.rt (by have := (tour_len hv).1; omega) (fun _ _ e => e)) hv HBB.out
          unfold stV at hmk
          have hb1 := World.block_lt_of_cell? W1 _ h3.c0
          refine ocall (f := 42) (args := #[.agg #[.int .i64 k7, .slice p1 p2 p3, .slice r1 r2 r3], .agg #[.int .i64 y.k, .int .i64 y.a, .int .i64 y.b]]) (by go_simp) hmk (fun v4 W4 h4 => hK0.out _ _ ⟨(b7.keep h4.2).c0, (b7.keep h4.2).c1, (b7.keep h4.2).c2, (h3.step h4.2 hb1 (fun e => e)).c0, (h3.step h4.2 hb1 (fun e => e)).c1, (h3.step h4.2 hb1 (fun e => e)).c2⟩ ?_)
          obtain ⟨hTM, k4⟩ := h4
          clear hS hmk hK0 K0
          simp only [List.getElem_toArray, List.getElem_cons_succ, List.getElem_cons_zero, Act.put, List.setIfInBounds_toArray, List.set_cons_zero, List.set_cons_succ]
          obtain ⟨n1, n2, n3, s1, s2, s3, rfl, hTN⟩ := hTM.put3i (b := B7) hB71
          replace b7 := b7.keep k4
          replace b2 := b2.keep k4
          replace kk := kk.keep k4
          have hs1 := kd.size
          have hsN := kk.size
          have hsW := k4.size
          refine wpAnyK_tail 6 rfl (by kernel_rfl) ?_
          simp only [List.drop_succ_cons, List.drop_zero]
          obtain ⟨c0, c1, c2, cf⟩ := id b7
          have cf0 := cf 0
          have cf1 := cf 1
          have cf2 := cf 2
          clear cf
          have HIT : Hid (iterT t0 ss (j + 1) = stepT u y.k y.a y.b) := Lib.hid (by show stepT (iterT t0 ss j) (ss.getD j dSt).k (ss.getD j dSt).a (ss.getD j dSt).b = _; rw [HU.out, HY.out])
          obtain ⟨x, hx⟩ : ∃ x, stepT u y.k y.a y.b = x := ⟨_, rfl⟩
          rw [hx] at HIT hTN ⊢
          have HE := Lib.hid (And.intro (((b7.set0 (.int .i64 x.items)).set1 (.slice n1 n2 n3)).set2 (.slice s1 s2 s3)) (And.intro (hTN.weak (base' := w.heap.size + 2) (by omega)) (And.intro
            (((b2.far ⟨B7, 0, none⟩ (.int .i64 x.items) (by show B7 ≠ _; omega)).far ⟨B7, 1, none⟩ (.slice n1 n2 n3) (by show B7 ≠ _; omega)).far ⟨B7, 2, none⟩ (.slice s1 s2 s3) (by show B7 ≠ _; omega))
            (kk.put3 (b := B7) (fun h => by omega) (.int .i64 x.items) (.slice n1 n2 n3) (.slice s1 s2 s3)))))
          have hw1 : IntKind.i64.wrap ((j : Int) + 1) = (j : Int) + 1 := IntWalk.i64_in _ (by omega)
          clear b7 b2 kk hTN hTA hTM h3 k4 kd hx
          go_wp2_with fail
          go_round
          case measure => simp [intOf]; omega
          case rel => exact ⟨j + 1, n1, n2, n3, s1, s2, s3, hjL, by go_num, by rw [HIT.out]; exact HE.out.1, by rw [HIT.out]; exact HE.out.2.1, HE.out.2.2.1, HE.out.2.2.2⟩
      · have hje : j = playN t0 ss := by have := HP.out.1; omega
        have hjn : j = ss.length := by have := HP.out.1; omega
        have HNJ : Hid (nv = (j : Int)) := Lib.hid (by rw [HN.out, ht0, ← hje])
        have HVU : Hid (tv = u) := Lib.hid (by rw [HV.out, ht0, ← hje, HU.out])
        have hj1 : ¬ (j : Int) < (ss.length : Int) := by omega
        obtain ⟨k7, hk7⟩ : ∃ x, u.items = x := ⟨_, rfl⟩
        rw [hk7] at b7 hTA
        clear hu hje hjn
        go_wp2_with fail
        refine wp_region_X (fun W => Chg No wr W) (by kernel_rfl) (by kernel_rfl) ((Chg.refl No wr).drew) ?_
        refine wpX_val (.int .i64 (j : Int)) rfl (by intro W hW; go_simp) ?_
        simp only [Act.put, List.setIfInBounds_toArray, List.set_cons_zero, List.set_cons_succ]
        refine wpX_val (.slice sa ss.length sc) rfl (by intro W hW; go_simp) ?_
        simp only [Act.put, List.setIfInBounds_toArray, List.set_cons_zero, List.set_cons_succ]
        refine wpX_val (.int .i64 (ss.length : Int)) rfl (by intro W hW; go_simp) ?_
        simp only [Act.put, List.setIfInBounds_toArray, List.set_cons_zero, List.set_cons_succ]
        refine wpX_val (.bool false) rfl (by intro W hW; go_simp) ?_
        simp only [Act.put, List.setIfInBounds_toArray, List.set_cons_zero, List.set_cons_succ]
        refine wpX_val (.bool false) rfl (by intro W hW; go_simp) ?_
        simp only [Act.put, List.setIfInBounds_toArray, List.set_cons_zero, List.set_cons_succ]
        repeat (refine wpX_skip rfl ?_; simp only [Act.put, List.setIfInBounds_toArray, List.set_cons_zero, List.set_cons_succ])
        refine wpX_val (.bool false) rfl (by intro W hW; go_simp) ?_
        simp only [Act.put, List.setIfInBounds_toArray, List.set_cons_zero, List.set_cons_succ]
        refine wpX_nil ?_
        intro W hW
        replace b7 := b7.keep hW
        replace hTA := hTA.keep hW
        replace b2 := b2.keep hW
        replace kk := kk.keep hW
        have hB7l := b7.lt
        obtain ⟨e0, e1, e2, cf⟩ := id b2
        have cf0 := cf 0
        have cf1 := cf 1
        have cf2 := cf 2
        clear cf
        have hb2l := b2.lt
        obtain ⟨z0, z1, z2, _⟩ := ((b2.set0 (.int .i64 k7)).set1 (.slice p1 p2 p3)).set2 (.slice r1 r2 r3)
        have hTS := hTA.stepB (b := w.heap.size + 1) (by omega) (.int .i64 k7) (.slice p1 p2 p3) (.slice r1 r2 r3)
        have HK := Lib.hid (kk.put3 (b := w.heap.size + 1) (fun h => by omega) (.int .i64 k7) (.slice p1 p2 p3) (.slice r1 r2 r3))
        have HTN := Lib.hid (hTS.weak (base' := w.heap.size) (by omega))
        obtain ⟨c0, c1, c2, _⟩ := id b7
        clear hTA hTS kk b2 b7
        go_wp2_with fail
        exact bodyPost_ret (v := .tuple #[.agg #[.int .i64 k7, .slice p1 p2 p3, .slice r1 r2 r3], .int .i64 (j : Int), .bool true]) (by simp [results, Tryz.results8, go_sem, z0, z1, z2]) rfl ⟨_, by rw [HNJ.out], by rw [HVU.out]; exact HTN.out, HK.out⟩
end Go.Proofs.YtodnkkmjjlfoiaaGreat
