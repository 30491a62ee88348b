import Derived.Test.YtndhijckbponkaaPk
/- Problems and Chances of the laws: their size, copies, comparisons -/
namespace Go.Proofs.Ytndhijckbponkaa
open Go.RowKit

theorem oii_rii {base : Nat} {w : World} {v : Value} {ll : List (List Int)} (h : ∃ F, OII base w v ll F) : RII No w v ll := h.elim fun _ h => h.readNo
/-- a copy stands apart from the blocks below its base -/
theorem oii_step {base : Nat} {w w' : World} {v : Value} {ll : List (List Int)} {T : Nat → Prop} (h : ∃ F, OII base w v ll F) (hc : Chg T w w') (hT : ∀ q, T q → q < base) : ∃ F, OII base w' v ll F :=
  h.elim fun F h => ⟨F, h.step hc (fun q hq ht => by have := (h.lt q hq).1; have := hT q ht; omega)⟩
theorem chg1 (w : World) (b i : Nat) (x : Value) : Chg (fun q => q = b) w (w.setCell ⟨b, i, none⟩ x) := (Chg.refl (fun q => q = b) w).setCell (p := ⟨b, i, none⟩) (fun _ => rfl) x
theorem oii_shape {base : Nat} {w : World} {v : Value} {ll : List (List Int)} (h : ∃ F, OII base w v ll F) : ∃ a c, v = .slice a ll.length c := (oii_rii h).shape
set_option maxRecDepth 100000 in
set_option maxHeartbeats 1000000 in
theorem toProblem_any (v : Value) (p : Pr) (w : World) (h : RPr No w v p) :
    Calls Try.prog 11 #[v] w (Ret fun r w' => RPr No w' r p ∧ Chg No w w') := by
  obtain ⟨mv, sv, rfl, hm, hs⟩ := h
  obtain ⟨ma, mc, rfl⟩ := hm.shape
  obtain ⟨sa, sc, rfl⟩ := hs.shape
  go_enter Try.func11, Try.ntmps11
  go_wp2_with fail
  refine bx3 (R := fun W => Calls _ _ _ W _) (fun W0 k0 b0 b1 b2 => ?_)
  obtain ⟨S, hS⟩ : ∃ S, w.heap.size + 1 + 1 = S := ⟨_, rfl⟩
  have hS0 : w.heap.size < S ∧ w.heap.size + 1 < S := by omega
  rw [hS] at b2
  refine (toIntSS_any _ p.mv W0 (hm.keep k0)).mono ?_
  rintro e w1 ⟨v1, rfl, r1, k1⟩
  obtain ⟨xa, xc, rfl⟩ := oii_shape r1
  have l2 := b2.lt
  have kk := k0.keep k1
  have b0 := (b0.keep k1).far ⟨S, 0, none⟩ (.slice xa p.mv.length xc) (by simp; omega)
  have b1 := (b1.keep k1).far ⟨S, 0, none⟩ (.slice xa p.mv.length xc) (by simp; omega)
  have b2' := b2.keep k1
  have b2 := b2'.set (i := 0) (by simp) (.slice xa p.mv.length xc)
  have f2 := b2'.fr 0
  have h2 := b2'.c 0 _ rfl
  have kk := kk.setCell (p := ⟨S, 0, none⟩) (fun h => by simp at h; omega) (.slice xa p.mv.length xc)
  have r1 := oii_step r1 (chg1 w1 S 0 (.slice xa p.mv.length xc)) (fun q hq => by omega)
  have g0 := b0.c 0 _ rfl
  have g1 := b0.c 1 _ rfl
  have hs1 : W0.heap.size ≤ (w1.setCell ⟨S, 0, none⟩ (.slice xa p.mv.length xc)).heap.size := by have := k1.size; simpa [World.setCell] using this
  rw [hS]
  go_wp2_with fail
  clear g0 g1 f2 h2 b2'
  generalize w1.setCell ⟨S, 0, none⟩ (.slice xa p.mv.length xc) = W1 at kk b0 b1 b2 r1 hs1 ⊢
  refine (toIntSS_any _ p.sv W1 (hs.keep kk)).mono ?_
  rintro e w2 ⟨v2, rfl, r2, k2⟩
  obtain ⟨ya, yc, rfl⟩ := oii_shape r2
  have kk := kk.keep k2
  have b1 := (b1.keep k2).far ⟨S, 1, none⟩ (.slice ya p.sv.length yc) (by simp; omega)
  have b2' := b2.keep k2
  have b2 := b2'.set (i := 1) (by simp) (.slice ya p.sv.length yc)
  have f2 := b2'.fr 1
  have h2 := b2'.c 1 _ rfl
  have e0 := b2.c 0 _ rfl
  have e1 := b2.c 1 _ rfl
  have f0 := b1.fr 0
  have f1 := b1.fr 1
  have h0 := b1.c 0 _ rfl
  have h1 := b1.c 1 _ rfl
  have b1 := (b1.set (i := 0) (by simp) (.slice xa p.mv.length xc)).set (i := 1) (by simp) (.slice ya p.sv.length yc)
  have z0 := b1.c 0 _ rfl
  have z1 := b1.c 1 _ rfl
  have hlt := hs.len
  go_wp2_with fail
  clear h0 h1 e0 e1 f0 f1 f2 h2 b2 b2'
  refine bodyPost_ret (v := .agg #[.slice xa p.mv.length xc, .slice ya p.sv.length yc]) (by simp [results, Try.results11, go_sem, z0, z1]) rfl ?_
  have ch : Chg (fun q => q = w.heap.size + 1 ∨ q = S) w2 (((w2.setCell ⟨S, 1, none⟩ (.slice ya p.sv.length yc)).setCell ⟨w.heap.size + 1, 0, none⟩ (.slice xa p.mv.length xc)).setCell ⟨w.heap.size + 1, 1, none⟩ (.slice ya p.sv.length yc)) :=
    (((Chg.refl (fun q => q = w.heap.size + 1 ∨ q = S) w2).setCell (p := ⟨S, 1, none⟩) (fun _ => .inr rfl) _).setCell (p := ⟨w.heap.size + 1, 0, none⟩) (fun _ => .inl rfl) _).setCell (p := ⟨w.heap.size + 1, 1, none⟩) (fun _ => .inl rfl) _
  exact ⟨_, rfl, ⟨_, _, rfl, oii_rii (oii_step (oii_step r1 k2 (fun q hq => hq.elim)) ch (fun q hq => by rcases hq with h | h <;> omega)), oii_rii (oii_step r2 ch (fun q hq => by rcases hq with h | h <;> omega))⟩, kk.step ch (fun q hq hl => by rcases hq with h | h <;> omega)⟩
set_option maxRecDepth 100000 in
set_option maxHeartbeats 1000000 in
theorem toChances_any (v : Value) (qs : List (List Int)) (ws : List Int) (w : World) (h : RCh No w v qs ws) :
    Calls Try.prog 12 #[v] w (Ret fun r w' => RCh No w' r qs ws ∧ Chg No w w') := by
  obtain ⟨mv, sv, rfl, hm, hs⟩ := h
  obtain ⟨ma, mc, rfl, _⟩ := id hm
  obtain ⟨sa, sc, rfl⟩ := hs.shape
  go_enter Try.func12, Try.ntmps12
  go_wp2_with fail
  refine bx3 (R := fun W => Calls _ _ _ W _) (fun W0 k0 b0 b1 b2 => ?_)
  obtain ⟨S, hS⟩ : ∃ S, w.heap.size + 1 + 1 = S := ⟨_, rfl⟩
  have hS0 : w.heap.size < S ∧ w.heap.size + 1 < S := by omega
  rw [hS] at b2
  refine (toIntS_any No _ ws W0 (hm.keep k0)).mono ?_
  rintro e w1 ⟨v1, rfl, r1, k1⟩
  obtain ⟨xa, xc, rfl, _⟩ := r1.view
  have l2 := b2.lt
  have kk := k0.keep k1
  have b0 := (b0.keep k1).far ⟨S, 0, none⟩ (.slice xa ws.length xc) (by simp; omega)
  have b1 := (b1.keep k1).far ⟨S, 0, none⟩ (.slice xa ws.length xc) (by simp; omega)
  have b2' := b2.keep k1
  have b2 := b2'.set (i := 0) (by simp) (.slice xa ws.length xc)
  have f2 := b2'.fr 0
  have h2 := b2'.c 0 _ rfl
  have kk := kk.setCell (p := ⟨S, 0, none⟩) (fun h => by simp at h; omega) (.slice xa ws.length xc)
  have r1 := r1.step (chg1 w1 S 0 (.slice xa ws.length xc)) (fun q hq e => by have := (r1.lt q hq).1; omega)
  have g0 := b0.c 0 _ rfl
  have g1 := b0.c 1 _ rfl
  have hs1 : W0.heap.size ≤ (w1.setCell ⟨S, 0, none⟩ (.slice xa ws.length xc)).heap.size := by have := k1.size; simpa [World.setCell] using this
  rw [hS]
  go_wp2_with fail
  clear g0 g1 f2 h2 b2'
  generalize w1.setCell ⟨S, 0, none⟩ (.slice xa ws.length xc) = W1 at kk b0 b1 b2 r1 hs1 ⊢
  refine (toIntSS_any _ qs W1 (hs.keep kk)).mono ?_
  rintro e w2 ⟨v2, rfl, r2, k2⟩
  obtain ⟨ya, yc, rfl⟩ := oii_shape r2
  have kk := kk.keep k2
  have b1 := (b1.keep k2).far ⟨S, 1, none⟩ (.slice ya qs.length yc) (by simp; omega)
  have b2' := b2.keep k2
  have b2 := b2'.set (i := 1) (by simp) (.slice ya qs.length yc)
  have f2 := b2'.fr 1
  have h2 := b2'.c 1 _ rfl
  have e0 := b2.c 0 _ rfl
  have e1 := b2.c 1 _ rfl
  have f0 := b1.fr 0
  have f1 := b1.fr 1
  have h0 := b1.c 0 _ rfl
  have h1 := b1.c 1 _ rfl
  have b1 := (b1.set (i := 0) (by simp) (.slice xa ws.length xc)).set (i := 1) (by simp) (.slice ya qs.length yc)
  have z0 := b1.c 0 _ rfl
  have z1 := b1.c 1 _ rfl
  have hlt := hs.len
  go_wp2_with fail
  clear h0 h1 e0 e1 f0 f1 f2 h2 b2 b2'
  refine bodyPost_ret (v := .agg #[.slice xa ws.length xc, .slice ya qs.length yc]) (by simp [results, Try.results12, go_sem, z0, z1]) rfl ?_
  have ch : Chg (fun q => q = w.heap.size + 1 ∨ q = S) w2 (((w2.setCell ⟨S, 1, none⟩ (.slice ya qs.length yc)).setCell ⟨w.heap.size + 1, 0, none⟩ (.slice xa ws.length xc)).setCell ⟨w.heap.size + 1, 1, none⟩ (.slice ya qs.length yc)) :=
    (((Chg.refl (fun q => q = w.heap.size + 1 ∨ q = S) w2).setCell (p := ⟨S, 1, none⟩) (fun _ => .inr rfl) _).setCell (p := ⟨w.heap.size + 1, 0, none⟩) (fun _ => .inl rfl) _).setCell (p := ⟨w.heap.size + 1, 1, none⟩) (fun _ => .inl rfl) _
  exact ⟨_, rfl, ⟨_, _, rfl, ((r1.keep k2).step ch (fun q hq e => by have := (r1.lt q hq).1; rcases e with h | h <;> omega)).readNo, oii_rii (oii_step r2 ch (fun q hq => by rcases hq with h | h <;> omega))⟩, kk.step ch (fun q hq hl => by rcases hq with h | h <;> omega)⟩
set_option maxRecDepth 100000 in
set_option maxHeartbeats 1000000 in
theorem eqProblem_same (v v' : Value) (p : Pr) (w : World) (h : RPr No w v p) (h' : RPr No w v' p) :
    Calls Try.prog 15 #[v, v'] w (Ret fun r w' => r = .bool true ∧ Chg No w w') := by
  obtain ⟨mv, sv, rfl, hm, hs⟩ := h
  obtain ⟨mv', sv', rfl, hm', hs'⟩ := h'
  obtain ⟨ma, mc, rfl⟩ := hm.shape
  obtain ⟨sa, sc, rfl⟩ := hs.shape
  obtain ⟨ma', mc', rfl⟩ := hm'.shape
  obtain ⟨sa', sc', rfl⟩ := hs'.shape
  go_enter Try.func15, Try.ntmps15
  go_wp2_with fail
  refine bx2 (R := fun W => Calls _ _ _ W _) (fun W0 k0 b0 b1 => ?_)
  refine (eqIntSS_same No No _ _ p.mv W0 (hm.keep k0) (hm'.keep k0)).mono ?_
  rintro e w1 ⟨rfl, q1⟩
  have k1 := q1.chg
  have kk := k0.keep k1
  have b0 := b0.keep k1
  have b1 := b1.keep k1
  have g0 := b0.c 0 _ rfl
  have g1 := b0.c 1 _ rfl
  have g2 := b1.c 0 _ rfl
  have g3 := b1.c 1 _ rfl
  go_wp2_with fail
  refine (eqIntSS_same No No _ _ p.sv w1 (hs.keep kk) (hs'.keep kk)).mono ?_
  rintro e w2 ⟨rfl, q2⟩
  clear g0 g1 g2 g3
  go_wp2_with fail
  go_ret
  exact ⟨_, rfl, rfl, kk.keep q2.chg⟩
set_option maxRecDepth 100000 in
set_option maxHeartbeats 1000000 in
theorem eqChances_same (v v' : Value) (qs : List (List Int)) (ws : List Int) (w : World) (h : RCh No w v qs ws) (h' : RCh No w v' qs ws) :
    Calls Try.prog 16 #[v, v'] w (Ret fun r w' => r = .bool true ∧ Chg No w w') := by
  obtain ⟨mv, sv, rfl, hm, hs⟩ := h
  obtain ⟨mv', sv', rfl, hm', hs'⟩ := h'
  obtain ⟨ma, mc, rfl, _⟩ := id hm
  obtain ⟨sa, sc, rfl⟩ := hs.shape
  obtain ⟨ma', mc', rfl, _⟩ := id hm'
  obtain ⟨sa', sc', rfl⟩ := hs'.shape
  go_enter Try.func16, Try.ntmps16
  go_wp2_with fail
  refine bx2 (R := fun W => Calls _ _ _ W _) (fun W0 k0 b0 b1 => ?_)
  refine (eqIntS_same No No _ _ ws W0 (hm.keep k0) (hm'.keep k0)).mono ?_
  rintro e w1 ⟨_, rfl, rfl, k1⟩
  have kk := k0.keep k1
  have b0 := b0.keep k1
  have b1 := b1.keep k1
  have g0 := b0.c 0 _ rfl
  have g1 := b0.c 1 _ rfl
  have g2 := b1.c 0 _ rfl
  have g3 := b1.c 1 _ rfl
  go_wp2_with fail
  refine (eqIntSS_same No No _ _ qs w1 (hs.keep kk) (hs'.keep kk)).mono ?_
  rintro e w2 ⟨rfl, q2⟩
  clear g0 g1 g2 g3
  go_wp2_with fail
  go_ret
  exact ⟨_, rfl, rfl, kk.keep q2.chg⟩
/-- raw Problems and Chances: no bounds on lengths -/
def szP (m s : List (List Int)) (left : Int) : Int := if szII m left < 0 then -1 else szII s (szII m left)
def szC2 (n : Nat) (q : List (List Int)) (left : Int) : Int := if szN n left < 0 then -1 else szII q (szN n left)
theorem szII_in {ll : List (List Int)} {left : Int} (h : ¬ szII ll left < 0) : (ll.length : Int) + tot ll ≤ left ∧ szII ll left = left - ll.length - tot ll := by
  unfold szII at h ⊢
  split at h
  · rename_i hc; rw [if_pos hc]; exact ⟨hc, rfl⟩
  · omega
theorem szII_neg {ll : List (List Int)} {left : Int} (h : szII ll left < 0) (h0 : 0 ≤ left) : szII ll left = -1 := by
  unfold szII at h ⊢
  split at h
  · omega
  · rename_i hc; rw [if_neg hc]
theorem szN_in {n : Nat} {left : Int} (h : ¬ szN n left < 0) : (n : Int) ≤ left ∧ szN n left = left - n := by
  unfold szN at h ⊢
  split at h
  · rename_i hc; rw [if_pos hc]; exact ⟨hc, rfl⟩
  · omega
theorem szP_in {m s : List (List Int)} {left : Int} (h : ¬ szP m s left < 0) : ((m.length : Int) + tot m ≤ left ∧ (s.length : Int) + tot s ≤ left) ∧ 0 ≤ szP m s left ∧ szP m s left ≤ left := by
  unfold szP at h ⊢
  split at h
  · omega
  · rename_i hm
    rw [if_neg hm]
    obtain ⟨h1, h2⟩ := szII_in hm
    obtain ⟨h3, h4⟩ := szII_in h
    omega
theorem szC2_in {n : Nat} {q : List (List Int)} {left : Int} (h : ¬ szC2 n q left < 0) : ((n : Int) ≤ left ∧ (q.length : Int) + tot q ≤ left) ∧ 0 ≤ szC2 n q left ∧ szC2 n q left ≤ left := by
  unfold szC2 at h ⊢
  split at h
  · omega
  · rename_i hm
    rw [if_neg hm]
    obtain ⟨h1, h2⟩ := szN_in hm
    obtain ⟨h3, h4⟩ := szII_in h
    omega
theorem RIIr.keep {A : Nat → Prop} {w w' : World} {v : Value} {ll : List (List Int)} (h : RIIr A w v ll) (hc : Chg No w w') : RIIr A w' v ll := by
  obtain ⟨vs, h1, h2, h3⟩ := h
  exact ⟨vs, h1, h2.keep hc, fun i hi => (h3 i hi).keep hc⟩
theorem RIIr.shape {A : Nat → Prop} {w : World} {v : Value} {ll : List (List Int)} (h : RIIr A w v ll) : ∃ a cap, v = .slice a ll.length cap := by
  obtain ⟨vs, _, ⟨a, cap, h, _⟩, _⟩ := h; exact ⟨a, cap, h⟩
set_option maxRecDepth 100000 in
set_option maxHeartbeats 1000000 in
theorem szProblem_any (mv sv : Value) (m s : List (List Int)) (left : Int) (w : World) (hm : RIIr No w mv m) (hs : RIIr No w sv s) (h0 : 0 ≤ left) (h1 : left ≤ 1048576) :
    Calls Try.prog 8 #[.agg #[mv, sv], .int .i64 left] w (Ret fun r w' => r = .int .i64 (szP m s left) ∧ Chg No w w') := by
  obtain ⟨ma, mc, rfl⟩ := hm.shape
  obtain ⟨sa, sc, rfl⟩ := hs.shape
  have HE : Hid (szP m s left = if szII m left < 0 then -1 else szII s (szII m left)) := Lib.hid rfl
  have HI := Lib.hid (fun h => (szII_in (ll := m) (left := left) h))
  go_enter Try.func8, Try.ntmps8
  go_wp2_with fail
  refine bx1 (R := fun W => Calls _ _ _ W _) (fun W0 k0 b0 => ?_)
  refine (szIntSS_any _ m left W0 (hm.keep k0) h0 h1).mono ?_
  rintro e w1 ⟨_, rfl, rfl, k1⟩
  have kk := k0.keep k1
  have b0 := b0.keep k1
  have g0 := b0.c 0 _ rfl
  have g1 := b0.c 1 _ rfl
  obtain ⟨z, hz⟩ : ∃ z, szII m left = z := ⟨_, rfl⟩
  rw [hz] at HE HI ⊢
  clear hz
  by_cases hn : z < 0
  · rw [if_pos hn] at HE
    go_wp2_with fail
    go_ret
    exact ⟨_, rfl, by rw [HE.out]; rfl, kk⟩
  · rw [if_neg hn] at HE
    have hi : z ≤ left := by have := HI.out (by omega); omega
    clear HI
    go_wp2_with fail
    refine (szIntSS_any _ s z w1 (hs.keep kk) (by omega) (by omega)).mono ?_
    rintro e w2 ⟨_, rfl, rfl, k2⟩
    have HN := Lib.hid (fun h => szII_neg (ll := s) (left := z) h (by omega))
    obtain ⟨y, hy⟩ : ∃ y, szII s z = y := ⟨_, rfl⟩
    rw [hy] at HE HN ⊢
    clear hy g0 g1 hi
    by_cases hy : y < 0
    · have hy2 := HN.out hy
      rw [hy2] at HE
      go_wp2_with fail
      go_ret
      exact ⟨_, rfl, by rw [HE.out]; rfl, kk.keep k2⟩
    · go_wp2_with fail
      go_ret
      exact ⟨_, rfl, by rw [HE.out]; rfl, kk.keep k2⟩
set_option maxRecDepth 100000 in
set_option maxHeartbeats 1000000 in
theorem szChances_any (wa : Option Addr) (wn wc : Nat) (qv : Value) (q : List (List Int)) (left : Int) (w : World) (hwn : wn ≤ 9223372036854775807) (hs : RIIr No w qv q) (h0 : 0 ≤ left) (h1 : left ≤ 1048576) :
    Calls Try.prog 9 #[.agg #[.slice wa wn wc, qv], .int .i64 left] w (Ret fun r w' => r = .int .i64 (szC2 wn q left) ∧ Chg No w w') := by
  obtain ⟨sa, sc, rfl⟩ := hs.shape
  have HE : Hid (szC2 wn q left = if szN wn left < 0 then -1 else szII q (szN wn left)) := Lib.hid rfl
  have HI := Lib.hid (fun h => (szN_in (n := wn) (left := left) h))
  go_enter Try.func9, Try.ntmps9
  go_wp2_with fail
  refine bx1 (R := fun W => Calls _ _ _ W _) (fun W0 k0 b0 => ?_)
  refine (szIntS_any _ wn _ left W0 hwn h0 h1).mono ?_
  rintro e w1 ⟨rfl, rfl⟩
  have g0 := b0.c 0 _ rfl
  have g1 := b0.c 1 _ rfl
  obtain ⟨z, hz⟩ : ∃ z, szN wn left = z := ⟨_, rfl⟩
  rw [hz] at HE HI ⊢
  clear hz
  by_cases hn : z < 0
  · rw [if_pos hn] at HE
    go_wp2_with fail
    go_ret
    exact ⟨_, rfl, by rw [HE.out]; rfl, k0⟩
  · rw [if_neg hn] at HE
    have hi : z ≤ left := by have := HI.out (by omega); omega
    clear HI
    go_wp2_with fail
    refine (szIntSS_any _ q z W0 (hs.keep k0) (by omega) (by omega)).mono ?_
    rintro e w2 ⟨_, rfl, rfl, k2⟩
    have HN := Lib.hid (fun h => szII_neg (ll := q) (left := z) h (by omega))
    obtain ⟨y, hy⟩ : ∃ y, szII q z = y := ⟨_, rfl⟩
    rw [hy] at HE HN ⊢
    clear hy g0 g1 hi
    by_cases hy : y < 0
    · have hy2 := HN.out hy
      rw [hy2] at HE
      go_wp2_with fail
      go_ret
      exact ⟨_, rfl, by rw [HE.out]; rfl, k0.keep k2⟩
    · go_wp2_with fail
      go_ret
      exact ⟨_, rfl, by rw [HE.out]; rfl, k0.keep k2⟩
end Go.Proofs.Ytndhijckbponkaa
