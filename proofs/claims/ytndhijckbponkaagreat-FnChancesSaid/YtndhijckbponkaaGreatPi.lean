import Derived.Test.YtndhijckbponkaaGreatPkX8
/- the weights of what was asked, both sides; costs and the states that serve -/
namespace Go.Proofs.YtndhijckbponkaaGreat
open Go.RowKit

theorem pre_eq (seen q : List Int) : seen.isPrefixOf q = (decide (seen.length ≤ q.length) && (q.take seen.length == seen)) := by
  cases h : seen.isPrefixOf q
  · by_cases hl : seen.length ≤ q.length
    · rw [decide_eq_true hl, Bool.true_and]
      cases e : q.take seen.length == seen
      · rfl
      · have e := beq_iff_eq.1 e
        have : seen.isPrefixOf q = true := List.isPrefixOf_iff_prefix.2 (List.prefix_iff_eq_take.2 e.symm)
        rw [this] at h; cases h
    · rw [decide_eq_false hl]; rfl
  · have hp := List.isPrefixOf_iff_prefix.1 h
    rw [decide_eq_true hp.length_le, Bool.true_and]
    exact (beq_iff_eq.2 (List.prefix_iff_eq_take.1 hp).symm).symm
/-- the weights of the first sequences -/
def wTo (qs : List (List Int)) (ws : List Int) (seen : List Int) : Nat → Int
  | 0 => 0
  | i + 1 => wTo qs ws seen i + if seen.isPrefixOf (qs.getD i []) then ws.getD i 0 else 0
theorem wTo_cons (q : List Int) (qs : List (List Int)) (w : Int) (ws : List Int) (seen : List Int) : ∀ i, wTo (q :: qs) (w :: ws) seen (i + 1) = (if seen.isPrefixOf q then w else 0) + wTo qs ws seen i
  | 0 => by simp [wTo]
  | i + 1 => by
    rw [wTo, wTo_cons q qs w ws seen i, wTo]
    simp only [List.getD_cons_succ]
    omega
theorem wTo_all : ∀ (qs : List (List Int)) (ws : List Int) (seen : List Int), ws.length = qs.length → wTo qs ws seen qs.length = wS (qs.zip ws) seen
  | [], [], _, _ => rfl
  | q :: qs, w :: ws, seen, h => by
    rw [List.length_cons, wTo_cons, wTo_all qs ws seen (by simpa using h), List.zip_cons_cons, wS]
theorem wTo_in {qs : List (List Int)} {ws : List Int} (seen : List Int) (hw : ∀ i, i < qs.length → 0 ≤ ws.getD i 0 ∧ ws.getD i 0 ≤ 9) : ∀ i, i ≤ qs.length → 0 ≤ wTo qs ws seen i ∧ wTo qs ws seen i ≤ 9 * (i : Int)
  | 0, _ => ⟨Int.le_refl _, by simp [wTo]⟩
  | i + 1, h => by
    have ih := wTo_in seen hw i (by omega)
    have h1 := hw i (by omega)
    rw [wTo]
    push_cast
    split <;> omega
set_option maxRecDepth 100000 in
set_option maxHeartbeats 1000000 in
theorem l11Begins_any (A B : Nat → Prop) (v sv : Value) (q seen : List Int) (w : World) (h : RI A w v q) (hs : RI B w sv seen) :
    Calls Tryz.prog 155 #[v, sv] w (Ret fun r w' => r = .bool (seen.isPrefixOf q) ∧ Chg No w w') := by
  have HP := Lib.hid (pre_eq seen q)
  have hlq := h.len
  have hls := hs.len
  obtain ⟨a, c, rfl, _⟩ := id h
  obtain ⟨sa, sc, rfl, _⟩ := id hs
  by_cases hl : seen.length ≤ q.length
  · obtain ⟨x, hx, rx⟩ := h.upto seen.length (seen.length : Int) rfl hl
    obtain ⟨xa, xn, xc, rfl⟩ := rx.shape
    have hl' : (seen.length : Int) ≤ (q.length : Int) := by omega
    go_enter Tryz.func155, Tryz.ntmps155
    go_wp2_with fail
    refine (l1Same_any A B _ _ _ _ w rx hs).mono ?_
    rintro e w1 ⟨_, rfl, rfl, k1⟩
    go_wp2_with fail
    go_ret
    exact ⟨_, rfl, by rw [HP.out, decide_eq_true hl, Bool.true_and]; rfl, k1⟩
  · have hl' : ¬ (seen.length : Int) ≤ (q.length : Int) := by omega
    have HR : Hid (seen.isPrefixOf q = false) := Lib.hid (by rw [HP.out, decide_eq_false hl]; rfl)
    clear HP hl
    go_enter Tryz.func155, Tryz.ntmps155
    go_wp2_with fail
    go_ret
    exact ⟨_, rfl, by rw [HR.out]; rfl, Chg.refl _ _⟩
set_option maxRecDepth 100000 in
set_option maxHeartbeats 2000000 in
theorem l11Weight_any (A B : Nat → Prop) (cv sv : Value) (qs : List (List Int)) (ws : List Int) (seen : List Int) (w : World) (hc : RCh A w cv qs ws) (hs : RI B w sv seen)
    (hl : ws.length = qs.length) (hw9 : ∀ i, i < qs.length → 0 ≤ ws.getD i 0 ∧ ws.getD i 0 ≤ 9) (hq12 : qs.length ≤ 1000) :
    Calls Tryz.prog 118 #[cv, sv] w (Ret fun r w' => r = .int .i64 (wS (qs.zip ws) seen) ∧ Chg No w w') := by
  rw [← wTo_all qs ws seen hl]
  obtain ⟨wv, qv, rfl, hw, hq⟩ := hc
  obtain ⟨qa, qc, rfl⟩ := hq.shape
  obtain ⟨wa, wc, rfl⟩ : ∃ wa wc, wv = .slice wa qs.length wc := by
    obtain ⟨a, c, e, _⟩ := hw
    exact ⟨a, c, by rw [e, hl]⟩
  obtain ⟨sa, sn, sc, rfl⟩ := hs.shape
  have HL := Lib.hid hl
  have HW := Lib.hid hw9
  clear hl hw9
  go_enter Tryz.func118, Tryz.ntmps118
  go_wp2_with fail
  refine bx1 (R := fun W => _) (fun W0 k0 b0 => ?_)
  go_loopw [5, 6] (fun s z wr => ∃ i : Nat, i ≤ qs.length ∧ z = .int .i64 (i : Int) ∧ s = .int .i64 (wTo qs ws seen i) ∧ Chg No W0 wr) (fun _ z _ => qs.length - (intOf z).toNat)
  case atStart => exact ⟨0, Nat.zero_le _, rfl, rfl, Chg.refl _ _⟩
  case round =>
    obtain ⟨i, hi, rfl, rfl, kr⟩ := hrel
    have hi0 : (0 : Int) ≤ (i : Int) := Int.natCast_nonneg _
    have g0 := (b0.keep kr).c 0 _ rfl
    have g1 := (b0.keep kr).c 1 _ rfl
    have kkr := k0.keep kr
    have hT := wTo_in seen HW.out i hi
    by_cases hlt : i < qs.length
    · have hi1 : (i : Int) < (qs.length : Int) := by omega
      have hwi : IntKind.i64.wrap ((i : Int) + 1) = (i : Int) + 1 := IntWalk.i64_in _ (by omega)
      obtain ⟨qb, qo, xa, xc, rfl, hqb, hci, hri⟩ := (hq.keep kkr).row hlt
      obtain ⟨wb, wo, rfl, hwb, hwi2⟩ := (hw.keep kkr).cellN (j := i) (by rw [HL.out]; exact hlt)
      have hTs : Hid (wTo qs ws seen (i + 1) = wTo qs ws seen i + if seen.isPrefixOf (qs.getD i []) then ws.getD i 0 else 0) := Lib.hid rfl
      have hW := HW.out i hlt
      obtain ⟨y, hy⟩ : ∃ y, qs.getD i [] = y := ⟨_, rfl⟩
      obtain ⟨z, hz⟩ : ∃ z, ws.getD i 0 = z := ⟨_, rfl⟩
      obtain ⟨t, ht⟩ : ∃ t, wTo qs ws seen i = t := ⟨_, rfl⟩
      rw [hy] at hci hri
      rw [hz] at hwi2 hW
      rw [hy, hz, ht] at hTs
      rw [ht] at hT ⊢
      clear hy hz ht
      go_wp2_with fail
      refine (l11Begins_any A B _ _ y seen wr hri (hs.keep kkr)).mono ?_
      rintro e w1 ⟨_, rfl, rfl, k1⟩
      have kr1 := kr.keep k1
      have g0 := (b0.keep kr1).c 0 _ rfl
      have g1 := (b0.keep kr1).c 1 _ rfl
      have hwi2 := (k1.cellD wb (wo + i) hwb (fun e => e)).trans hwi2
      cases hp : seen.isPrefixOf y
      · rw [hp] at hTs
        clear hp
        go_wp2_with fail
        go_round
        case rel => exact ⟨i + 1, by omega, by go_num, congrArg (Value.int .i64) (by rw [hTs.out]; simp), kr1⟩
        case measure => simp [intOf]; omega
      · rw [hp] at hTs
        have hwt : IntKind.i64.wrap (t + z) = t + z := IntWalk.i64_in _ (by omega)
        clear hp
        go_wp2_with fail
        go_round
        case rel => exact ⟨i + 1, by omega, by go_num, congrArg (Value.int .i64) (by rw [hTs.out]; simp), kr1⟩
        case measure => simp [intOf]; omega
    · have hie : i = qs.length := by omega
      subst hie
      go_wp2_with fail
      go_ret
      exact ⟨_, rfl, rfl, kkr⟩
set_option maxRecDepth 100000 in
set_option maxHeartbeats 2000000 in
theorem beginning_any (A B : Nat → Prop) (cv sv : Value) (qs : List (List Int)) (ws : List Int) (seen : List Int) (w : World) (hc : RCh A w cv qs ws) (hs : RI B w sv seen)
    (hl : ws.length = qs.length) (hw9 : ∀ i, i < qs.length → 0 ≤ ws.getD i 0 ∧ ws.getD i 0 ≤ 9) (hq12 : qs.length ≤ 1000) :
    Calls Tryz.prog 116 #[cv, sv] w (Ret fun r w' => r = .int .i64 (wS (qs.zip ws) seen) ∧ Chg No w w') := by
  rw [← wTo_all qs ws seen hl]
  obtain ⟨wv, qv, rfl, hw, hq⟩ := hc
  obtain ⟨qa, qc, rfl⟩ := hq.shape
  obtain ⟨wa, wc, rfl⟩ : ∃ wa wc, wv = .slice wa qs.length wc := by
    obtain ⟨a, c, e, _⟩ := hw
    exact ⟨a, c, by rw [e, hl]⟩
  have hls := hs.len
  obtain ⟨sa, sc, rfl, _⟩ := id hs
  have HL := Lib.hid hl
  have HW := Lib.hid hw9
  clear hl hw9
  go_enter Tryz.func116, Tryz.ntmps116
  go_wp2_with fail
  refine bx1 (R := fun W => _) (fun W0 k0 b0 => ?_)
  go_loopw [5, 11] (fun s z wr => ∃ i : Nat, i ≤ qs.length ∧ z = .int .i64 (i : Int) ∧ s = .int .i64 (wTo qs ws seen i) ∧ Chg No W0 wr) (fun _ z _ => qs.length - (intOf z).toNat)
  case atStart => exact ⟨0, Nat.zero_le _, rfl, rfl, Chg.refl _ _⟩
  case round =>
    obtain ⟨i, hi, rfl, rfl, kr⟩ := hrel
    have hi0 : (0 : Int) ≤ (i : Int) := Int.natCast_nonneg _
    have g0 := (b0.keep kr).c 0 _ rfl
    have g1 := (b0.keep kr).c 1 _ rfl
    have kkr := k0.keep kr
    have hT := wTo_in seen HW.out i hi
    by_cases hlt : i < qs.length
    · have hi1 : (i : Int) < (qs.length : Int) := by omega
      have hwi : IntKind.i64.wrap ((i : Int) + 1) = (i : Int) + 1 := IntWalk.i64_in _ (by omega)
      obtain ⟨qb, qo, xa, xc, rfl, hqb, hci, hri⟩ := (hq.keep kkr).row hlt
      obtain ⟨wb, wo, rfl, hwb, hwi2⟩ := (hw.keep kkr).cellN (j := i) (by rw [HL.out]; exact hlt)
      have hTs : Hid (wTo qs ws seen (i + 1) = wTo qs ws seen i + if seen.isPrefixOf (qs.getD i []) then ws.getD i 0 else 0) := Lib.hid rfl
      have hW := HW.out i hlt
      obtain ⟨y, hy⟩ : ∃ y, qs.getD i [] = y := ⟨_, rfl⟩
      obtain ⟨z, hz⟩ : ∃ z, ws.getD i 0 = z := ⟨_, rfl⟩
      obtain ⟨t, ht⟩ : ∃ t, wTo qs ws seen i = t := ⟨_, rfl⟩
      rw [hy] at hci hri
      rw [hz] at hwi2 hW
      rw [hy, hz, ht] at hTs
      rw [ht] at hT ⊢
      clear hy hz ht
      have hly := hri.len
      by_cases hle : seen.length ≤ y.length
      · obtain ⟨x, hx, rx⟩ := hri.upto seen.length (seen.length : Int) rfl hle
        obtain ⟨ua, un, uc, rfl⟩ := rx.shape
        have hle' : (seen.length : Int) ≤ (y.length : Int) := by omega
        have HP : Hid (seen.isPrefixOf y = (y.take seen.length == seen)) := Lib.hid (by rw [pre_eq, decide_eq_true hle, Bool.true_and])
        go_wp2_with fail
        refine (Equal_any A B _ _ _ seen wr rx (hs.keep kkr)).mono ?_
        rintro e w1 ⟨_, rfl, rfl, k1⟩
        rw [← HP.out]
        have kr1 := kr.keep k1
        have g0 := (b0.keep kr1).c 0 _ rfl
        have g1 := (b0.keep kr1).c 1 _ rfl
        have hwi2 := (k1.cellD wb (wo + i) hwb (fun e => e)).trans hwi2
        clear hx
        cases hp : seen.isPrefixOf y
        · rw [hp] at hTs
          clear hp HP
          go_wp2_with fail
          go_round
          case rel => exact ⟨i + 1, by omega, by go_num, congrArg (Value.int .i64) (by rw [hTs.out]; simp), kr1⟩
          case measure => simp [intOf]; omega
        · rw [hp] at hTs
          have hwt : IntKind.i64.wrap (t + z) = t + z := IntWalk.i64_in _ (by omega)
          clear hp HP
          go_wp2_with fail
          go_round
          case rel => exact ⟨i + 1, by omega, by go_num, congrArg (Value.int .i64) (by rw [hTs.out]; simp), kr1⟩
          case measure => simp [intOf]; omega
      · have hle' : ¬ (seen.length : Int) ≤ (y.length : Int) := by omega
        rw [show seen.isPrefixOf y = false by rw [pre_eq, decide_eq_false hle]; rfl] at hTs
        clear hle
        go_wp2_with fail
        go_round
        case rel => exact ⟨i + 1, by omega, by go_num, congrArg (Value.int .i64) (by rw [hTs.out]; simp), kr⟩
        case measure => simp [intOf]; omega
    · have hie : i = qs.length := by omega
      subst hie
      go_wp2_with fail
      go_ret
      exact ⟨_, rfl, rfl, kkr⟩
/-- a Problem whose numbers are within bounds -/
def Bnd (p : Pr) : Prop := (0 < p.mv.length ∧ p.mv.length ≤ 4) ∧ (0 < p.sv.length ∧ p.sv.length ≤ 4) ∧ (∀ x, x < p.mv.length → (p.mv.getD x []).length = p.mv.length) ∧ (∀ r, r < p.sv.length → (p.sv.getD r []).length = p.mv.length) ∧
  (∀ x y, x < p.mv.length → y < p.mv.length → 0 ≤ mvA p x y ∧ mvA p x y ≤ 99) ∧ ∀ r s, r < p.sv.length → s < p.mv.length → -1 ≤ svA p r s ∧ svA p r s ≤ 20
theorem PrP.bnd {p : Pr} (h : PrP p) : Bnd p := ⟨⟨h.1.1, h.1.2⟩, ⟨h.2.2.1.1, h.2.2.1.2⟩, h.2.1.2.1, fun r hr => (h.2.2.2 r hr).1, fun _ _ hx hy => h.mv_in hx hy, fun r s hr hs => (h.2.2.2 r hr).2.1 s hs⟩
set_option maxRecDepth 100000 in
set_option maxHeartbeats 1000000 in
theorem cost_any (A : Nat → Prop) (v : Value) (p : Pr) (x y r : Nat) (w : World) (h : RPr A w v p) (hb : Bnd p) (hx : x < p.mv.length) (hy : y < p.mv.length) (hr : r < p.sv.length) :
    Calls Tryz.prog 104 #[v, .int .i64 (x : Int), .int .i64 (y : Int), .int .i64 (r : Int)] w (Ret fun t w' => t = .int .i64 (mvA p x y + svA p r y) ∧ Chg No w w') := by
  obtain ⟨mv, sv, rfl, hm, hs⟩ := h
  obtain ⟨ma, mc, rfl⟩ := hm.shape
  obtain ⟨sa, sc, rfl⟩ := hs.shape
  obtain ⟨mb, mo, rfl⟩ := hm.at0 hb.1.1
  obtain ⟨sb, so, rfl⟩ := hs.at0 hb.2.1.1
  have i1 := hb.2.2.2.2.1 x y hx hy
  have i2 := hb.2.2.2.2.2 r y hr hy
  have hw1 : IntKind.i64.wrap (mvA p x y + svA p r y) = mvA p x y + svA p r y := IntWalk.i64_in _ (by omega)
  have hx1 : (x : Int) < (p.mv.length : Int) := by omega
  have hy1 : (y : Int) < (p.mv.length : Int) := by omega
  have hr1 : (r : Int) < (p.sv.length : Int) := by omega
  have hx0 : (0 : Int) ≤ (x : Int) := Int.natCast_nonneg _
  have hy0 : (0 : Int) ≤ (y : Int) := Int.natCast_nonneg _
  have hr0 : (0 : Int) ≤ (r : Int) := Int.natCast_nonneg _
  go_enter Tryz.func104, Tryz.ntmps104
  go_wp2_with fail
  refine bx1 (R := fun W => _) (fun W0 k0 b0 => ?_)
  have g0 := b0.c 0 _ rfl
  have g1 := b0.c 1 _ rfl
  obtain ⟨xb, xo, xc, hcx, hdx⟩ := (hm.keep k0).at2 hx (hb.2.2.1 x hx) hb.1.1
  obtain ⟨rb, ro, rc, hcr, hdr⟩ := (hs.keep k0).at2 hr (hb.2.2.2.1 r hr) hb.1.1
  have hxy := hdx y hy
  have hry := hdr y hy
  have e1 : cellA p.mv x y = mvA p x y := rfl
  have e2 : cellA p.sv r y = svA p r y := rfl
  rw [e1] at hxy
  rw [e2] at hry
  obtain ⟨c, hc⟩ : ∃ c, mvA p x y = c := ⟨_, rfl⟩
  obtain ⟨d, hd⟩ : ∃ d, svA p r y = d := ⟨_, rfl⟩
  rw [hc] at hxy hw1
  rw [hd] at hry hw1
  have HC := Lib.hid hc
  have HD := Lib.hid hd
  clear hdx hdr e1 e2 hc hd i1 i2
  go_quiet (fail)
  have kd := (Chg.refl No W0).drewN nq
  clear g0 g1 hcx hcr hxy hry
  generalize W0.drewN nq = W at kd ⊢
  go_wp2_with fail
  go_ret
  exact ⟨_, rfl, by rw [HC.out, HD.out]; rfl, k0.keep kd⟩
/-- the states in which a request can be served -/
def svd (ok : Nat → Bool) : Nat → List Int
  | 0 => []
  | m + 1 => if ok m then svd ok m ++ [(m : Int)] else svd ok m
theorem svd_len (ok : Nat → Bool) (m : Nat) : (svd ok m).length ≤ m := by
  induction m with
  | zero => simp [svd]
  | succ m ih =>
    unfold svd
    split
    · rw [List.length_append]; simp; omega
    · omega
theorem svd_mem {ok : Nat → Bool} {m : Nat} {x : Int} (h : x ∈ svd ok m) : ∃ s : Nat, x = (s : Int) ∧ s < m ∧ ok s = true := by
  induction m with
  | zero => simp [svd] at h
  | succ m ih =>
    unfold svd at h
    split at h
    · rename_i ho
      rcases List.mem_append.1 h with h | h
      · obtain ⟨s, h1, h2, h3⟩ := ih h; exact ⟨s, h1, by omega, h3⟩
      · rw [List.mem_singleton] at h; exact ⟨m, h, by omega, ho⟩
    · obtain ⟨s, h1, h2, h3⟩ := ih h; exact ⟨s, h1, by omega, h3⟩
set_option maxRecDepth 100000 in
set_option maxHeartbeats 1000000 in
theorem served_any (A : Nat → Prop) (v : Value) (p : Pr) (r : Nat) (w : World) (h : RPr A w v p) (hb : Bnd p) (hr : r < p.sv.length) :
    Calls Tryz.prog 120 #[v, .int .i64 (r : Int)] w (Ret fun t w' => OI w.heap.size w' t (svd (okA p r) p.mv.length) ∧ Chg No w w') := by
  obtain ⟨mv, sv, rfl, hm, hs⟩ := h
  obtain ⟨ma, mc, rfl⟩ := hm.shape
  obtain ⟨sa, sc, rfl⟩ := hs.shape
  obtain ⟨sb, so, rfl⟩ := hs.at0 hb.2.1.1
  have hr1 : (r : Int) < (p.sv.length : Int) := by omega
  have hr0 : (0 : Int) ≤ (r : Int) := Int.natCast_nonneg _
  have hl4 := hb.1
  have hl0 : (0 : Int) ≤ (p.mv.length : Int) := Int.natCast_nonneg _
  obtain ⟨rb, ro, rc, hsb, hcr0, hrr⟩ := hs.rowAt hr (hb.2.2.2.1 r hr) hb.1.1
  have k0 := ((Chg.refl No w).alloc (.cells #[.slice ma p.mv.length mc, .slice (some ⟨sb, so, none⟩) p.sv.length sc] 26)).alloc (.cells #[] 3)
  have hcr := (k0.cellD sb (so + r) hsb (fun e => e)).trans hcr0
  have hlr := hb.2.2.2.1 r hr
  have HLR := Lib.hid hlr
  have HBD := Lib.hid hb.2.2.2.2.2
  clear hlr
  go_enter Tryz.func120, Tryz.ntmps120
  go_wp2_with fail
  go_loopw [5, 15] (fun o z wr => ∃ s : Nat, s ≤ p.mv.length ∧ z = .int .i64 (s : Int) ∧ OI w.heap.size wr o (svd (okA p r) s) ∧ Chg No w wr) (fun _ z _ => p.mv.length - (intOf z).toNat)
  case atStart => exact ⟨0, Nat.zero_le _, rfl, OI.zeroAt (by simp) (by omega), k0⟩
  case round =>
    obtain ⟨s, hs', rfl, ho, kr⟩ := hrel
    have hs0 : (0 : Int) ≤ (s : Int) := Int.natCast_nonneg _
    by_cases hlt : s < p.mv.length
    · have hs1 : (s : Int) < (p.mv.length : Int) := by omega
      have hws : IntKind.i64.wrap ((s : Int) + 1) = (s : Int) + 1 := IntWalk.i64_in _ (by omega)
      have hcs := (hrr.keep kr).at1 (j := s) (by rw [HLR.out]; exact hlt)
      have HO : Hid (okA p r s = decide (0 ≤ svA p r s)) := Lib.hid rfl
      obtain ⟨x, hx⟩ : ∃ x, svA p r s = x := ⟨_, rfl⟩
      rw [show (p.sv.getD r []).getD s 0 = x from hx] at hcs
      rw [hx] at HO
      have HL := Lib.hid (svd_len (okA p r) s)
      have z1 := kr.size
      clear hx hcr
      by_cases h0 : 0 ≤ x
      · have HN : Hid (svd (okA p r) (s + 1) = svd (okA p r) s ++ [(s : Int)]) := Lib.hid (by rw [svd, HO.out, decide_eq_true h0, if_pos rfl])
        go_wp2_with (at_builtin; refine wapp1 rfl (.tmp 22) (.tmp 24) rfl ho rfl rfl (by have := HL.out; omega) z1 ?_)
        intro v2 w2 h2 k2 f2
        rw [← HN.out] at h2
        go_wp2_with fail
        go_round
        case rel => exact ⟨s + 1, hlt, by go_num, h2, kr.own k2 ho (Nat.le_refl _)⟩
        case measure => simp [intOf]; omega
      · have HN : Hid (svd (okA p r) (s + 1) = svd (okA p r) s) := Lib.hid (by rw [svd, HO.out, decide_eq_false h0]; rfl)
        rw [← HN.out] at ho
        go_wp2_with fail
        go_round
        case rel => exact ⟨s + 1, hlt, by go_num, ho, kr⟩
        case measure => simp [intOf]; omega
    · have hse : s = p.mv.length := by omega
      subst hse
      go_wp2_with fail
      go_ret
      exact ⟨_, rfl, ho, kr⟩
end Go.Proofs.YtndhijckbponkaaGreat
