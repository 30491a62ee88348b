import Derived.Test.YtodnkkmjjlfoiaaGreatPk5
import Derived.Test.YtodnkkmjjlfoiaaGreatO
import Derived.Test.YtodnkkmjjlfoiaaGreatPk1
import Derived.Test.YtodnkkmjjlfoiaaGreatCd
/- a Player, both sides -/
namespace Go.Proofs.YtodnkkmjjlfoiaaGreat
open Go.RowKit

/-- a Player in memory -/
structure Box7 (w : World) (b : Nat) (v0 v1 v2 v3 v4 v5 v6 : Value) : Prop where
  c0 : w.cell? ⟨b, 0, none⟩ = some v0
  c1 : w.cell? ⟨b, 1, none⟩ = some v1
  c2 : w.cell? ⟨b, 2, none⟩ = some v2
  c3 : w.cell? ⟨b, 3, none⟩ = some v3
  c4 : w.cell? ⟨b, 4, none⟩ = some v4
  c5 : w.cell? ⟨b, 5, none⟩ = some v5
  c6 : w.cell? ⟨b, 6, none⟩ = some v6
  fr : ∀ o, w.frozen? ⟨b, o, none⟩ = false
theorem Box7.lt {w : World} {b : Nat} {v0 v1 v2 v3 v4 v5 v6 : Value} (h : Box7 w b v0 v1 v2 v3 v4 v5 v6) : b < w.heap.size := World.block_lt_of_cell? w _ h.c0
theorem Box7.step {S : Nat → Prop} {w w' : World} {b : Nat} {v0 v1 v2 v3 v4 v5 v6 : Value} (h : Box7 w b v0 v1 v2 v3 v4 v5 v6) (hc : Chg S w w') (hS : ¬ S b) : Box7 w' b v0 v1 v2 v3 v4 v5 v6 := by
  have hb := h.lt
  exact ⟨(hc.cellD b 0 hb hS).trans h.c0, (hc.cellD b 1 hb hS).trans h.c1, (hc.cellD b 2 hb hS).trans h.c2, (hc.cellD b 3 hb hS).trans h.c3, (hc.cellD b 4 hb hS).trans h.c4, (hc.cellD b 5 hb hS).trans h.c5, (hc.cellD b 6 hb hS).trans h.c6,
    fun o => (World.frozen?_of_block (hc.block b hb hS)).trans (h.fr o)⟩
theorem Box7.keep {w w' : World} {b : Nat} {v0 v1 v2 v3 v4 v5 v6 : Value} (h : Box7 w b v0 v1 v2 v3 v4 v5 v6) (hc : Chg No w w') : Box7 w' b v0 v1 v2 v3 v4 v5 v6 := h.step hc (fun e => e)
theorem Box7.new (w : World) (v0 v1 v2 v3 v4 v5 v6 : Value) (t : TypeId) : Box7 (w.alloc (.cells #[v0, v1, v2, v3, v4, v5, v6] t)) w.heap.size v0 v1 v2 v3 v4 v5 v6 := by
  refine ⟨?_, ?_, ?_, ?_, ?_, ?_, ?_, fun o => World.frozen?_alloc_new _ _ _ _⟩ <;> (rw [World.cell?_alloc_new]; rfl)
theorem Box7.at {w : World} {b n : Nat} {v0 v1 v2 v3 v4 v5 v6 : Value} (h : Box7 w b v0 v1 v2 v3 v4 v5 v6) (e : b = n) : Box7 w n v0 v1 v2 v3 v4 v5 v6 := e ▸ h
theorem Box7.far {w : World} {b : Nat} {v0 v1 v2 v3 v4 v5 v6 : Value} (h : Box7 w b v0 v1 v2 v3 v4 v5 v6) (p : Addr) (x : Value) (hp : p.block ≠ b) : Box7 (w.setCell p x) b v0 v1 v2 v3 v4 v5 v6 :=
  h.step (S := fun k => k = p.block) ((Chg.refl (fun k => k = p.block) w).setCell (p := p) (fun _ => rfl) x) (fun e => hp e.symm)
theorem Chg.put7 {S : Nat → Prop} {w0 wr : World} (h : Chg S w0 wr) {b : Nat} (hb : b < w0.heap.size → S b) (x0 x1 x2 x3 x4 x5 x6 : Value) :
    Chg S w0 (((((((wr.setCell ⟨b, 0, none⟩ x0).setCell ⟨b, 1, none⟩ x1).setCell ⟨b, 2, none⟩ x2).setCell ⟨b, 3, none⟩ x3).setCell ⟨b, 4, none⟩ x4).setCell ⟨b, 5, none⟩ x5).setCell ⟨b, 6, none⟩ x6) :=
  (((((((h.setCell (p := ⟨b, 0, none⟩) hb x0).setCell (p := ⟨b, 1, none⟩) hb x1).setCell (p := ⟨b, 2, none⟩) hb x2).setCell (p := ⟨b, 3, none⟩) hb x3).setCell (p := ⟨b, 4, none⟩) hb x4).setCell (p := ⟨b, 5, none⟩) hb x5).setCell (p := ⟨b, 6, none⟩) hb x6)
theorem Box7.put7 {w : World} {b : Nat} {v0 v1 v2 v3 v4 v5 v6 : Value} (h : Box7 w b v0 v1 v2 v3 v4 v5 v6) (x0 x1 x2 x3 x4 x5 x6 : Value) :
    Box7 (((((((w.setCell ⟨b, 0, none⟩ x0).setCell ⟨b, 1, none⟩ x1).setCell ⟨b, 2, none⟩ x2).setCell ⟨b, 3, none⟩ x3).setCell ⟨b, 4, none⟩ x4).setCell ⟨b, 5, none⟩ x5).setCell ⟨b, 6, none⟩ x6) b x0 x1 x2 x3 x4 x5 x6 := by
  obtain ⟨c0, c1, c2, c3, c4, c5, c6, fr⟩ := h
  have o : ∀ (w : World) (i j : Nat) (x : Value), i ≠ j → (w.setCell ⟨b, i, none⟩ x).cell? ⟨b, j, none⟩ = w.cell? ⟨b, j, none⟩ := fun w i j x hij => World.cell?_setCell_other _ _ _ _ (by simp)
  refine ⟨?_, ?_, ?_, ?_, ?_, ?_, ?_, fun i => ?_⟩
  · rw [o _ 6 0 _ (by omega), o _ 5 0 _ (by omega), o _ 4 0 _ (by omega), o _ 3 0 _ (by omega), o _ 2 0 _ (by omega), o _ 1 0 _ (by omega)]; exact World.cell?_setCell_same _ _ _ c0
  · rw [o _ 6 1 _ (by omega), o _ 5 1 _ (by omega), o _ 4 1 _ (by omega), o _ 3 1 _ (by omega), o _ 2 1 _ (by omega)]; exact World.cell?_setCell_same _ _ _ ((o _ 0 1 _ (by omega)).trans c1)
  · rw [o _ 6 2 _ (by omega), o _ 5 2 _ (by omega), o _ 4 2 _ (by omega), o _ 3 2 _ (by omega)]; exact World.cell?_setCell_same _ _ _ ((o _ 1 2 _ (by omega)).trans ((o _ 0 2 _ (by omega)).trans c2))
  · rw [o _ 6 3 _ (by omega), o _ 5 3 _ (by omega), o _ 4 3 _ (by omega)]; exact World.cell?_setCell_same _ _ _ ((o _ 2 3 _ (by omega)).trans ((o _ 1 3 _ (by omega)).trans ((o _ 0 3 _ (by omega)).trans c3)))
  · rw [o _ 6 4 _ (by omega), o _ 5 4 _ (by omega)]; exact World.cell?_setCell_same _ _ _ ((o _ 3 4 _ (by omega)).trans ((o _ 2 4 _ (by omega)).trans ((o _ 1 4 _ (by omega)).trans ((o _ 0 4 _ (by omega)).trans c4))))
  · rw [o _ 6 5 _ (by omega)]; exact World.cell?_setCell_same _ _ _ ((o _ 4 5 _ (by omega)).trans ((o _ 3 5 _ (by omega)).trans ((o _ 2 5 _ (by omega)).trans ((o _ 1 5 _ (by omega)).trans ((o _ 0 5 _ (by omega)).trans c5)))))
  · exact World.cell?_setCell_same _ _ _ ((o _ 5 6 _ (by omega)).trans ((o _ 4 6 _ (by omega)).trans ((o _ 3 6 _ (by omega)).trans ((o _ 2 6 _ (by omega)).trans ((o _ 1 6 _ (by omega)).trans ((o _ 0 6 _ (by omega)).trans c6))))))
  · simp only [World.frozen?_setCell]; exact fr i
theorem OI.put7 {base : Nat} {wr : World} {v : Value} {l : List Int} (h : OI base wr v l) {b : Nat} (hb : ∀ k, own v k → k ≠ b) (x0 x1 x2 x3 x4 x5 x6 : Value) :
    OI base (((((((wr.setCell ⟨b, 0, none⟩ x0).setCell ⟨b, 1, none⟩ x1).setCell ⟨b, 2, none⟩ x2).setCell ⟨b, 3, none⟩ x3).setCell ⟨b, 4, none⟩ x4).setCell ⟨b, 5, none⟩ x5).setCell ⟨b, 6, none⟩ x6) v l :=
  h.step ((Chg.refl (fun k => k = b) wr).put7 (fun _ => rfl) x0 x1 x2 x3 x4 x5 x6) hb

structure Pl where
  frm : Int
  ca : Ca
  fa : Int
/-- what a Player is that has served a part -/
def servedP (frm p k : Int) (l : List Int) : Pl := ⟨frm, runC (newC p k) l, ((places (newC p k) l).length : Int)⟩
/-- a Player by value -/
def RP (A : Nat → Prop) (w : World) (v : Value) (x : Pl) : Prop :=
  ∃ pv mv, v = .agg #[.int .i64 x.frm, .int .i64 x.ca.pol, .int .i64 x.ca.size, pv, mv, .int .i64 x.ca.hand, .int .i64 x.fa] ∧ RI A w pv x.ca.pages ∧ RI A w mv x.ca.marks
/-- its lists the call's own -/
def RPO (base : Nat) (w : World) (v : Value) (x : Pl) : Prop :=
  ∃ pv mv, v = .agg #[.int .i64 x.frm, .int .i64 x.ca.pol, .int .i64 x.ca.size, pv, mv, .int .i64 x.ca.hand, .int .i64 x.fa] ∧ OI base w pv x.ca.pages ∧ OI base w mv x.ca.marks ∧ ∀ q, own pv q → ¬ own mv q
theorem RPO.read {base : Nat} {w : World} {v : Value} {x : Pl} (h : RPO base w v x) {A : Nat → Prop} (hA : ∀ q, base ≤ q → ¬ A q) : RP A w v x := by
  obtain ⟨pv, mv, rfl, h1, h2, _⟩ := h
  exact ⟨pv, mv, rfl, h1.read (fun q hq => hA q (h1.lt q hq).1), h2.read (fun q hq => hA q (h2.lt q hq).1)⟩
theorem RPO.keep {base : Nat} {w w' : World} {v : Value} {x : Pl} (h : RPO base w v x) (hc : Chg No w w') : RPO base w' v x := by
  obtain ⟨pv, mv, rfl, h1, h2, h3⟩ := h
  exact ⟨pv, mv, rfl, h1.keep hc, h2.keep hc, h3⟩
theorem RPO.weak {base base' : Nat} {w : World} {v : Value} {x : Pl} (h : RPO base w v x) (hb : base' ≤ base) : RPO base' w v x := by
  obtain ⟨pv, mv, rfl, h1, h2, h3⟩ := h
  exact ⟨pv, mv, rfl, h1.weak hb, h2.weak hb, h3⟩
theorem RP.keep {A : Nat → Prop} {w w' : World} {v : Value} {x : Pl} (h : RP A w v x) (hc : Chg No w w') : RP A w' v x := by
  obtain ⟨pv, mv, rfl, h1, h2⟩ := h
  exact ⟨pv, mv, rfl, h1.keep hc, h2.keep hc⟩
theorem RP.cache {A : Nat → Prop} {w : World} {x : Pl} {x0 x1 x2 pv mv x5 x6 : Value} (h : RP A w (.agg #[x0, x1, x2, pv, mv, x5, x6]) x) : RC A w (.agg #[x1, x2, pv, mv, x5]) x.ca := by
  obtain ⟨pv', mv', e, h1, h2⟩ := h
  simp only [Value.agg.injEq, Array.mk.injEq, List.cons.injEq, and_true] at e
  obtain ⟨_, rfl, rfl, rfl, rfl, rfl, _⟩ := e
  exact ⟨_, _, rfl, h1, h2⟩

set_option maxRecDepth 100000 in
set_option maxHeartbeats 2000000 in
theorem playerOf_any (frm p k : Int) (rv : Value) (l : List Int) (w : World) (hr : RI No w rv l) (hok0 : Ok (newC p k)) :
    Calls Tryz.prog 93 #[.int .i64 frm, .int .i64 p, .int .i64 k, rv] w (Ret fun r w' => RPO w.heap.size w' r (servedP frm p k l) ∧ Chg No w w') := by
  obtain ⟨ra, rc, rfl, hcap, hmax, hlen, _, hc⟩ := id hr
  have HC0 := Lib.hid hc
  clear hc
  have b70 := (Box7.new w (.int .i64 0) (.int .i64 0) (.int .i64 0) (.slice none 0 0) (.slice none 0 0) (.int .i64 0) (.int .i64 0) 69)
  have k70 := (Chg.refl No w).alloc (.cells #[.int .i64 0, .int .i64 0, .int .i64 0, .slice none 0 0, .slice none 0 0, .int .i64 0, .int .i64 0] 69)
  have z70 : (w.alloc (.cells #[.int .i64 0, .int .i64 0, .int .i64 0, .slice none 0 0, .slice none 0 0, .int .i64 0, .int .i64 0] 69)).heap.size = w.heap.size + 1 := by simp
  go_enter Tryz.func93, Tryz.ntmps93
  go_wp2_with fail
  have nn : ∀ q, ¬ own (.slice none 0 0) q := fun q h => by simp [own, Value.ownBlock] at h
  have kal := k70.alloc (.cells #[.int .i64 p, .int .i64 k, .slice none 0 0, .slice none 0 0, .int .i64 0] 67)
  have kb := (Chg.refl No (w.alloc (.cells #[.int .i64 0, .int .i64 0, .int .i64 0, .slice none 0 0, .slice none 0 0, .int .i64 0, .int .i64 0] 69))).alloc (.cells #[.int .i64 p, .int .i64 k, .slice none 0 0, .slice none 0 0, .int .i64 0] 67)
  have mc : MC (w.heap.size + 2) ((w.alloc (.cells #[.int .i64 0, .int .i64 0, .int .i64 0, .slice none 0 0, .slice none 0 0, .int .i64 0, .int .i64 0] 69)).alloc (.cells #[.int .i64 p, .int .i64 k, .slice none 0 0, .slice none 0 0, .int .i64 0] 67)) (w.heap.size + 1) (newC p k) (.slice none 0 0) (.slice none 0 0) :=
    ⟨(Box.new _ _ _ _ _ _ _).at z70, OI.nil _ _, OI.nil _ _, fun q h => (nn q h).elim, nn _, nn _⟩
  have b70 := b70.keep kb
  clear k70 kb
  go_loopw [10, 18] (fun f i wr => ∃ (j : Nat) (pv mv : Value), j ≤ l.length ∧ i = .int .i64 j ∧ f = .int .i64 ((placesTo (newC p k) l j).length : Int) ∧ MC (w.heap.size + 2) wr (w.heap.size + 1) (runC (newC p k) (l.take j)) pv mv ∧
    Box7 wr w.heap.size (.int .i64 0) (.int .i64 0) (.int .i64 0) (.slice none 0 0) (.slice none 0 0) (.int .i64 0) (.int .i64 0) ∧ Chg No w wr) (fun _ i _ => l.length - (intOf i).toNat)
  case atStart => exact ⟨0, _, _, Nat.zero_le _, rfl, rfl, mc, b70, kal⟩
  case round =>
    clear mc b70 kal z70
    obtain ⟨j, pv', mv', hj, rfl, rfl, hM, hb1, hch⟩ := hrel
    obtain ⟨ck, hck⟩ : ∃ ck, runC (newC p k) (l.take j) = ck := ⟨_, rfl⟩
    have hokk : Ok ck := hck ▸ ok_run hok0 _
    have hsz := hM.box.lt
    have hf : ∀ q, foot (w.heap.size + 1) pv' mv' q → w.heap.size < q := fun q hq => by
      rcases hq with rfl | hq | hq
      · omega
      · have := (hM.pages.lt q hq).1; omega
      · have := (hM.marks.lt q hq).1; omega
    by_cases hlt : j < l.length
    · rw [hck] at hM
      obtain ⟨b, off, rfl, _, hb, hcell⟩ := HC0.out (by intro e; simp [e] at hlt)
      have hrun := runC_snoc (newC p k) l j hlt
      rw [hck] at hrun
      obtain ⟨y, hy⟩ : ∃ y, l[j] = y := ⟨_, rfl⟩
      have hcl := (hch.cellD b (off + j) hb (fun e => e)).trans (hcell j hlt)
      have hgy : l.getD j 0 = y := by rw [← hy, List.getD_eq_getElem?_getD, List.getElem?_eq_getElem hlt]; rfl
      rw [hgy] at hcl
      rw [hy] at hrun
      have hpl : placesTo (newC p k) l (j + 1) = if hasB ck.pages y then placesTo (newC p k) l j else placesTo (newC p k) l j ++ [(j : Int)] := by
        show (if hasB (runC (newC p k) (l.take j)).pages (l.getD j 0) then _ else _) = _
        rw [hck, hgy]
      have hple := placesTo_le (newC p k) l j
      have HR := Lib.hid hrun
      have HP := Lib.hid hpl
      have hj0 : (0 : Int) ≤ (j : Int) := Int.natCast_nonneg _
      have hj1 : (j : Int) < (l.length : Int) := by omega
      have hw1 : IntKind.i64.wrap ((j : Int) + 1) = (j : Int) + 1 := IntWalk.i64_in _ (by omega)
      have hw2 : IntKind.i64.wrap (((placesTo (newC p k) l j).length : Int) + 1) = ((placesTo (newC p k) l j).length : Int) + 1 := IntWalk.i64_in _ (by omega)
      clear hcell hrun hpl hple hck hgy hy
      go_wp2_with fail
      refine (step_any (w.heap.size + 2) (w.heap.size + 1) ck y pv' mv' wr hM (by omega) hokk).mono ?_
      rintro e w3 ⟨_, rfl, rfl, pv3, mv3, mc3, k3, f3⟩
      have hb3 := hb1.step k3 (fun hq => by have := hf _ hq; omega)
      have hch3 := hch.step k3 (fun q hq hl => by have := hf q hq; omega)
      rw [← HR.out] at mc3
      clear hM hb1 hch k3 f3 hcl hf hsz
      cases hh : hasB ck.pages y
      · have HL : Hid ((placesTo (newC p k) l (j + 1)).length = (placesTo (newC p k) l j).length + 1) := Lib.hid (by rw [HP.out, hh]; simp)
        simp only [Bool.not_false]
        go_wp2_with fail
        go_roundw
        case measure => simp [intOf]; omega
        case rel => exact ⟨j + 1, pv3, mv3, by omega, by go_num, by rw [HL.out]; go_num, mc3, hb3, hch3⟩
      · have HL : Hid ((placesTo (newC p k) l (j + 1)).length = (placesTo (newC p k) l j).length) := Lib.hid (by rw [HP.out, hh]; simp)
        simp only [Bool.not_true]
        go_wp2_with fail
        go_roundw
        case measure => simp [intOf]; omega
        case rel => exact ⟨j + 1, pv3, mv3, by omega, by go_num, by rw [HL.out], mc3, hb3, hch3⟩
    · have hjl : j = l.length := by omega
      subst hjl
      rw [List.take_length] at hM hck
      obtain ⟨a4, n4, q4, rfl⟩ := hM.pages.shape
      obtain ⟨a5, n5, q5, rfl⟩ := hM.marks.shape
      obtain ⟨c0, c1, c2, c3, c4, fr⟩ := id hM.box
      obtain ⟨cc, hcc⟩ : ∃ cc, runC (newC p k) l = cc := ⟨_, rfl⟩
      rw [hcc] at hM c0 c1 c4
      obtain ⟨np, hnp⟩ : ∃ np, ((placesTo (newC p k) l l.length).length : Int) = np := ⟨_, rfl⟩
      have HSV : Hid (servedP frm p k l = ⟨frm, cc, np⟩) := Lib.hid (by rw [servedP, hcc, places, hnp])
      clear hck hokk hcc
      rw [hnp]
      clear hnp
      go_wp2_with fail
      refine (ownCache_any No _ cc wr ⟨_, _, rfl, hM.pages.readNo, hM.marks.readNo⟩).mono ?_
      rintro e w4 ⟨v4, rfl, o4, k4⟩
      have hl3 := hb1.lt
      have B1 := hb1.keep k4
      have hk := hch.keep k4
      have o4' := o4
      obtain ⟨xp, xm, rfl, hxp, hxm, hxa⟩ := id o4
      obtain ⟨xa, xn, xc, rfl⟩ := hxp.shape
      obtain ⟨ya, yn, yc, rfl⟩ := hxm.shape
      clear c0 c1 c2 c3 c4 fr hM hb1 hch hf
      obtain ⟨s0, s1, s2, s3, s4, s5, s6, sf⟩ := id B1
      have sf0 := sf 0
      have sf1 := sf 1
      have sf2 := sf 2
      have sf3 := sf 3
      have sf4 := sf 4
      have sf5 := sf 5
      have sf6 := sf 6
      clear sf
      go_wp2_with fail
      obtain ⟨z0, z1, z2, z3, z4, z5, z6, _⟩ := B1.put7 (.int .i64 frm) (.int .i64 cc.pol) (.int .i64 cc.size) (.slice xa xn xc) (.slice ya yn yc) (.int .i64 cc.hand) (.int .i64 np)
      refine bodyPost_ret (v := .agg #[.int .i64 frm, .int .i64 cc.pol, .int .i64 cc.size, .slice xa xn xc, .slice ya yn yc, .int .i64 cc.hand, .int .i64 np]) (by simp [results, Tryz.results93, go_sem, z0, z1, z2, z3, z4, z5, z6]) rfl ?_
      refine ⟨_, rfl, ?_, hk.put7 (b := w.heap.size) (fun h => by omega) _ _ _ _ _ _ _⟩
      rw [HSV.out]
      exact ⟨_, _, rfl, (hxp.put7 (fun q hq e => by have := (hxp.lt q hq).1; omega) _ _ _ _ _ _ _).weak (by omega), (hxm.put7 (fun q hq e => by have := (hxm.lt q hq).1; omega) _ _ _ _ _ _ _).weak (by omega), hxa⟩

set_option maxRecDepth 100000 in
set_option maxHeartbeats 2000000 in
theorem l12Player_any (frm p k : Int) (i : Nat) (hfi : frm = (i : Int)) (rv : Value) (l : List Int) (hi : i ≤ l.length) (w : World) (hr : RI No w rv l) (hok0 : Ok (newC p k)) :
    Calls Tryz.prog 80 #[.int .i64 p, .int .i64 k, .int .i64 frm, rv] w (Ret fun r w' => RPO w.heap.size w' r (servedP frm p k (l.drop i)) ∧ Chg No w w') := by
  obtain ⟨ra, rc, rfl, hcap, hmax, hlen, _, _⟩ := id hr
  obtain ⟨xs, hx, hrx⟩ := hr.from i frm hfi hi
  obtain ⟨xa, xn, xc, rfl⟩ := hrx.shape
  have b70 := (Box7.new w (.int .i64 0) (.int .i64 0) (.int .i64 0) (.slice none 0 0) (.slice none 0 0) (.int .i64 0) (.int .i64 0) 69)
  have k70 := (Chg.refl No w).alloc (.cells #[.int .i64 0, .int .i64 0, .int .i64 0, .slice none 0 0, .slice none 0 0, .int .i64 0, .int .i64 0] 69)
  clear hfi hi hcap hmax hlen
  go_enter Tryz.func80, Tryz.ntmps80
  go_wp2_with fail
  refine (l4New_any p k _).mono ?_
  rintro e w1 ⟨v1, rfl, r1, k1⟩
  have r1 := r1 No (Bd.no _)
  obtain ⟨pv, mv, rfl, hp, hmk⟩ := id r1
  obtain ⟨pa, pn, pc, rfl⟩ := hp.shape
  obtain ⟨ma, mn, mc, rfl⟩ := hmk.shape
  simp only [newC] at r1
  have b70 := b70.keep k1
  have k70 := k70.keep k1
  go_wp2_with fail
  simp only [newC]
  have hN := b70.lt
  refine box1 (R := fun W => Code.wp _ _ _ _ W) (fun W kW b9 => ?_)
  refine wp_region_K (S := fun W => Box W w1.heap.size (.int .i64 p) (.int .i64 k) (.slice pa pn pc) (.slice ma mn mc) (.int .i64 0)) (k := 11) (by kernel_rfl) ?_
  have hd := (Chg.refl No W).drew
  have b9 := b9.keep hd
  have b70 := (b70.keep kW).keep hd
  have hk := (k70.keep kW).keep hd
  have r1 := (r1.keep kW).keep hd
  generalize W.drew = W at b9 b70 hk r1 ⊢
  clear hd kW k1 k70 hp hmk
  have hS := b9
  refine wpAnyK_take0 0 (.int .i64 frm) rfl (by kernel_rfl) (fun _ _ _ h => h) hS rfl (by intro w; go_simp) ?_
  simp only [List.getElem_toArray, List.getElem_cons_zero, Act.put, List.setIfInBounds_toArray, List.set_cons_zero, List.set_cons_succ]
  refine wpAnyK_take0 2 (.slice ra l.length rc) rfl (by kernel_rfl) (fun _ _ _ h => h) hS rfl (by intro w; go_simp) ?_
  simp only [List.getElem_toArray, List.getElem_cons_succ, List.getElem_cons_zero, Act.put, List.setIfInBounds_toArray, List.set_cons_zero, List.set_cons_succ]
  refine wpAnyK_take0 3 (.int .i64 frm) rfl (by kernel_rfl) (fun _ _ _ h => h) hS rfl (by intro w; go_simp) ?_
  simp only [List.getElem_toArray, List.getElem_cons_succ, List.getElem_cons_zero, Act.put, List.setIfInBounds_toArray, List.set_cons_zero, List.set_cons_succ]
  refine wpAnyK_take0 4 (.slice xa xn xc) rfl (by kernel_rfl) (fun _ _ _ h => h) hS rfl (by intro w; go_simp) ?_
  simp only [List.getElem_toArray, List.getElem_cons_succ, List.getElem_cons_zero, Act.put, List.setIfInBounds_toArray, List.set_cons_zero, List.set_cons_succ]
  refine wpAnyK_take0 8 (.slice ra l.length rc) rfl (by kernel_rfl) (fun _ _ _ h => h) hS rfl (by intro w; go_simp) ?_
  simp only [List.getElem_toArray, List.getElem_cons_succ, List.getElem_cons_zero, Act.put, List.setIfInBounds_toArray, List.set_cons_zero, List.set_cons_succ]
  refine wpAnyK_take0 9 (.int .i64 frm) rfl (by kernel_rfl) (fun _ _ _ h => h) hS rfl (by intro w; go_simp) ?_
  simp only [List.getElem_toArray, List.getElem_cons_succ, List.getElem_cons_zero, Act.put, List.setIfInBounds_toArray, List.set_cons_zero, List.set_cons_succ]
  refine wpAnyK_take0 10 (.slice xa xn xc) rfl (by kernel_rfl) (fun _ _ _ h => h) hS rfl (by intro w; go_simp) ?_
  simp only [List.getElem_toArray, List.getElem_cons_succ, List.getElem_cons_zero, Act.put, List.setIfInBounds_toArray, List.set_cons_zero, List.set_cons_succ]
  refine wpAnyK_take 7 (.agg #[.int .i64 p, .int .i64 k, .slice pa pn pc, .slice ma mn mc, .int .i64 0]) rfl (by kernel_rfl) (fun _ _ _ h => h) hS rfl (by rintro w ⟨c0, c1, c2, c3, c4, fr⟩; go_simp) ?_
  simp only [List.getElem_toArray, List.getElem_cons_succ, List.getElem_cons_zero, Act.put, List.setIfInBounds_toArray, List.set_cons_zero, List.set_cons_succ]
  refine wpAnyK_1 1 (by kernel_rfl) (wpOpK' rfl rfl ?_)
  intro K hK
  obtain ⟨c0, c1, c2, c3, c4, fr⟩ := id b9
  unfold Oper.wp execOp
  go_simp
  refine hK.out _ _ hS ?_
  clear hK K c0 c1 c2 c3 c4 fr hS
  simp only [List.setIfInBounds_toArray]
  refine wpAnyK_1 5 (by kernel_rfl) (wpOpK' rfl rfl ?_)
  intro K hK
  refine ocall (f := 131) (args := #[.agg #[.int .i64 p, .int .i64 k, .slice pa pn pc, .slice ma mn mc, .int .i64 0], .slice xa xn xc]) (by go_simp) (l4Run_any _ _ (newC p k) _ W r1 (hrx.keep hk) hok0) (fun v3 w3 h3 => hK.out _ _ (b9.keep h3.2) ?_)
  obtain ⟨r3, k3⟩ := h3
  clear hK K
  simp only [List.getElem_toArray, List.getElem_cons_succ, List.getElem_cons_zero, Act.put, List.setIfInBounds_toArray, List.set_cons_zero, List.set_cons_succ]
  have b9 := b9.keep k3
  have b70 := b70.keep k3
  have hk := hk.keep k3
  have r1 := r1.keep k3
  refine wpAnyK_1 6 (by kernel_rfl) (wpOpK' rfl rfl ?_)
  intro K hK
  refine ocall (f := 130) (args := #[v3]) (by go_simp) (l4Copy_any No v3 _ w3 r3) (fun v4 w4 h4 => hK.out _ _ (b9.keep h4.2) ?_)
  obtain ⟨o4, k4⟩ := h4
  clear hK K
  simp only [List.getElem_toArray, List.getElem_cons_succ, List.getElem_cons_zero, Act.put, List.setIfInBounds_toArray, List.set_cons_zero, List.set_cons_succ]
  have hl1 := b70.lt
  have b9 := b9.keep k4
  have b70 := b70.keep k4
  have hk := hk.keep k4
  have r1 := r1.keep k4
  refine wpAnyK_1 11 (by kernel_rfl) (wpOpK' rfl rfl ?_)
  intro K hK
  refine ocall (f := 132) (args := #[.agg #[.int .i64 p, .int .i64 k, .slice pa pn pc, .slice ma mn mc, .int .i64 0], .slice xa xn xc]) (by go_simp) (l4Places_any No _ _ (newC p k) _ w4 r1 (hrx.keep hk) (Bd.no _) hok0) (fun v5 w5 h5 => hK.out _ _ (b9.keep h5.2) ?_)
  obtain ⟨o5, k5⟩ := h5
  clear hK K
  obtain ⟨a5, q5, rfl, _⟩ := o5.view
  simp only [List.getElem_toArray, List.getElem_cons_succ, List.getElem_cons_zero, Act.put, List.setIfInBounds_toArray, List.set_cons_zero, List.set_cons_succ]
  have hS := b9.keep k5
  have b70 := b70.keep k5
  have hk := hk.keep k5
  have o4' := o4.keep k5
  obtain ⟨cc, hcc⟩ : ∃ cc, runC (newC p k) (l.drop i) = cc := ⟨_, rfl⟩
  obtain ⟨np, hnp⟩ : ∃ np, ((places (newC p k) (l.drop i)).length : Int) = np := ⟨_, rfl⟩
  have HSV : Hid (servedP frm p k (l.drop i) = ⟨frm, cc, np⟩) := Lib.hid (by rw [servedP, hcc, hnp])
  rw [hcc] at o4'
  refine wpAnyK_take0 12 (.int .i64 ((places (newC p k) (l.drop i)).length : Int)) rfl (by kernel_rfl) (fun _ _ _ h => h) hS rfl (by intro w; go_simp) ?_
  simp only [List.getElem_toArray, List.getElem_cons_succ, List.getElem_cons_zero, Act.put, List.setIfInBounds_toArray, List.set_cons_zero, List.set_cons_succ]
  rw [hnp]
  obtain ⟨xp, xm, rfl, hxp, hxm, hxa⟩ := o4'
  obtain ⟨ya, yn, yc, rfl⟩ := hxp.shape
  obtain ⟨za, zn, zc, rfl⟩ := hxm.shape
  clear hcc hnp o4 o5 r1 r3
  refine wpAnyK_take0 13 (.agg #[.int .i64 frm, .int .i64 cc.pol, .int .i64 cc.size, .slice ya yn yc, .slice za zn zc, .int .i64 cc.hand, .int .i64 np]) rfl (by kernel_rfl) (fun _ _ _ h => h) hS rfl (by intro w; go_simp) ?_
  simp only [List.getElem_toArray, List.getElem_cons_succ, List.getElem_cons_zero, Act.put, List.setIfInBounds_toArray, List.set_cons_zero, List.set_cons_succ]
  clear hS
  obtain ⟨s0, s1, s2, s3, s4, s5, s6, sf⟩ := id b70
  have sf0 := sf 0
  have sf1 := sf 1
  have sf2 := sf 2
  have sf3 := sf 3
  have sf4 := sf 4
  have sf5 := sf 5
  have sf6 := sf 6
  clear sf
  refine wpAnyK_tailK 14 rfl (by kernel_rfl) ?_
  simp only [List.drop_succ_cons, List.drop_zero]
  go_wp2_with fail
  obtain ⟨z0, z1, z2, z3, z4, z5, z6, _⟩ := b70.put7 (.int .i64 frm) (.int .i64 cc.pol) (.int .i64 cc.size) (.slice ya yn yc) (.slice za zn zc) (.int .i64 cc.hand) (.int .i64 np)
  refine bodyPost_ret (v := .agg #[.int .i64 frm, .int .i64 cc.pol, .int .i64 cc.size, .slice ya yn yc, .slice za zn zc, .int .i64 cc.hand, .int .i64 np]) (by simp [results, Tryz.results80, go_sem, z0, z1, z2, z3, z4, z5, z6]) rfl ?_
  refine ⟨_, rfl, ?_, hk.put7 (b := w.heap.size) (fun h => by omega) _ _ _ _ _ _ _⟩
  rw [HSV.out]
  exact ⟨_, _, rfl, (hxp.put7 (fun q hq e => by have := (hxp.lt q hq).1; omega) _ _ _ _ _ _ _).weak (by omega), (hxm.put7 (fun q hq e => by have := (hxm.lt q hq).1; omega) _ _ _ _ _ _ _).weak (by omega), hxa⟩
end Go.Proofs.YtodnkkmjjlfoiaaGreat

/- whether a Player is what it should be -/
namespace Go.Proofs.YtodnkkmjjlfoiaaGreat
open Go.RowKit

def wantP (x : Pl) (l : List Int) : Pl := servedP x.frm x.ca.pol x.ca.size (l.drop x.frm.toNat)
def playB (x : Pl) (l : List Int) : Bool := inB x.frm 0 l.length && (inB x.ca.pol 1 7 && inB x.ca.size 1 6) && (sameB (wantP x l).ca x.ca && (wantP x l).fa == x.fa)
theorem sameB_comm (a b : Ca) : sameB a b = sameB b a := by
  unfold sameB
  rw [show (a.pol == b.pol) = (b.pol == a.pol) from BEq.comm, show (a.size == b.size) = (b.size == a.size) from BEq.comm, show (a.hand == b.hand) = (b.hand == a.hand) from BEq.comm,
    show (a.pages == b.pages) = (b.pages == a.pages) from BEq.comm, show (a.marks == b.marks) = (b.marks == a.marks) from BEq.comm]
theorem box71 {w : World} {t : TypeId} {x0 x1 x2 x3 x4 x5 x6 : Value} {R : World → Prop} (h : ∀ W, Chg No w W → Box7 W w.heap.size x0 x1 x2 x3 x4 x5 x6 → R W) : R (w.alloc (.cells #[x0, x1, x2, x3, x4, x5, x6] t)) :=
  h _ ((Chg.refl No w).alloc _) (Box7.new w x0 x1 x2 x3 x4 x5 x6 t)

set_option maxRecDepth 100000 in
set_option maxHeartbeats 1000000 in
theorem l12Plays_any (A : Nat → Prop) (v rv : Value) (x : Pl) (l : List Int) (w : World) (h : RP A w v x) (hr : RI No w rv l) :
    Calls Tryz.prog 78 #[v, rv] w (Ret fun r w' => r = .bool (playB x l) ∧ Chg No w w') := by
  obtain ⟨frm, c, fa⟩ := x
  have hv := h
  obtain ⟨pv, mv, rfl, hp, hmk⟩ := h
  simp only at hp hmk hv ⊢
  obtain ⟨pa, pn, pc, rfl⟩ := hp.shape
  obtain ⟨ma, mn, mc, rfl⟩ := hmk.shape
  obtain ⟨ra, rc, rfl, _⟩ := id hr
  have k0 := (Chg.refl No w).alloc (.cells #[.int .i64 frm, .int .i64 c.pol, .int .i64 c.size, .slice pa pn pc, .slice ma mn mc, .int .i64 c.hand, .int .i64 fa] 69)
  cases h1 : inB frm 0 l.length
  · have HP : Hid (playB ⟨frm, c, fa⟩ l = false) := Lib.hid (by simp [playB, h1])
    have H1 := Lib.hid h1
    clear h1
    go_enter Tryz.func78, Tryz.ntmps78
    go_wp2_with fail
    refine (l1In_any _ _ _ _).mono ?_
    rintro e w1 ⟨rfl, rfl⟩
    rw [H1.out]
    go_wp2_with fail
    go_ret
    exact ⟨_, rfl, by rw [HP.out]; rfl, k0⟩
  · cases h2 : (inB c.pol 1 7 && inB c.size 1 6)
    · have HP : Hid (playB ⟨frm, c, fa⟩ l = false) := Lib.hid (by simp only [playB, h2, Bool.and_false, Bool.false_and])
      have H1 := Lib.hid h1
      have H2 := Lib.hid h2
      clear h1 h2
      go_enter Tryz.func78, Tryz.ntmps78
      go_wp2_with fail
      refine (l1In_any _ _ _ _).mono ?_
      rintro e w1 ⟨rfl, rfl⟩
      rw [H1.out]
      go_wp2_with fail
      refine (l4Sizes_any _ _ _).mono ?_
      rintro e w2 ⟨rfl, rfl⟩
      rw [H2.out]
      go_wp2_with fail
      go_ret
      exact ⟨_, rfl, by rw [HP.out]; rfl, k0⟩
    · have HP : Hid (playB ⟨frm, c, fa⟩ l = (sameB (wantP ⟨frm, c, fa⟩ l).ca c && (wantP ⟨frm, c, fa⟩ l).fa == fa)) := Lib.hid (by simp only [playB, h1, h2, Bool.true_and])
      have hb := inB_iff.1 h1
      have hok : Ok (newC c.pol c.size) := by
        simp only [Bool.and_eq_true, inB_iff] at h2
        exact ok_new h2.1 h2.2
      have H1 := Lib.hid h1
      have H2 := Lib.hid h2
      have HF : Hid (frm = (frm.toNat : Int)) := Lib.hid (by omega)
      have HI : Hid (frm.toNat ≤ l.length) := Lib.hid (by omega)
      clear h1 h2 hb
      go_enter Tryz.func78, Tryz.ntmps78
      go_wp2_with fail
      refine box71 (R := fun W => Calls _ _ _ W _) (fun W kW b0 => ?_)
      refine (l1In_any _ _ _ _).mono ?_
      rintro e w1 ⟨rfl, rfl⟩
      rw [H1.out]
      obtain ⟨c0, c1, c2, c3, c4, c5, c6, _⟩ := id b0
      go_wp2_with fail
      refine (l4Sizes_any _ _ _).mono ?_
      rintro e w2 ⟨rfl, rfl⟩
      rw [H2.out]
      go_wp2_with fail
      refine (l12Player_any frm c.pol c.size frm.toNat HF.out _ l HI.out W (hr.keep kW) hok).mono ?_
      rintro e w3 ⟨v3, rfl, o3, k3⟩
      have hwant : wantP ⟨frm, c, fa⟩ l = servedP frm c.pol c.size (l.drop frm.toNat) := rfl
      rw [← hwant] at o3
      obtain ⟨y, hy⟩ : ∃ y, wantP ⟨frm, c, fa⟩ l = y := ⟨_, rfl⟩
      rw [hy] at o3 HP
      clear hwant hy c0 c1 c2 c3 c4 c5 c6
      have b0 := b0.keep k3
      have kk := kW.keep k3
      have o3' := o3
      obtain ⟨xp, xm, rfl, hxp, hxm, hxa⟩ := o3
      obtain ⟨ya, yn, yc, rfl⟩ := hxp.shape
      obtain ⟨za, zn, zc, rfl⟩ := hxm.shape
      have kal := (Chg.refl No w3).alloc (.cells #[.int .i64 y.frm, .int .i64 y.ca.pol, .int .i64 y.ca.size, .slice ya yn yc, .slice za zn zc, .int .i64 y.ca.hand, .int .i64 y.fa] 69)
      have b1 := Box7.new w3 (.int .i64 y.frm) (.int .i64 y.ca.pol) (.int .i64 y.ca.size) (.slice ya yn yc) (.slice za zn zc) (.int .i64 y.ca.hand) (.int .i64 y.fa) 69
      have b0 := b0.keep kal
      have kk := kk.keep kal
      have r3 := (o3'.keep kal).read (A := No) (fun _ _ e => e)
      obtain ⟨c0, c1, c2, c3, c4, c5, c6, _⟩ := id b0
      go_wp2_with fail
      refine (l12SameCache_any No A _ _ y.ca c _ r3.cache (hv.keep kk).cache).mono ?_
      rintro e w4 ⟨_, rfl, rfl, k4⟩
      have b0 := b0.keep k4
      have b1 := b1.keep k4
      have kk := kk.keep k4
      clear c0 c1 c2 c3 c4 c5 c6
      obtain ⟨c0, c1, c2, c3, c4, c5, c6, _⟩ := id b0
      obtain ⟨d0, d1, d2, d3, d4, d5, d6, _⟩ := id b1
      cases hs : sameB y.ca c
      · have HP : Hid (playB ⟨frm, c, fa⟩ l = false) := Lib.hid (by rw [HP.out, hs]; rfl)
        go_wp2_with fail
        go_ret
        exact ⟨_, rfl, by rw [HP.out]; rfl, kk⟩
      · have HP : Hid (playB ⟨frm, c, fa⟩ l = (y.fa == fa)) := Lib.hid (by rw [HP.out, hs]; rfl)
        go_wp2_with fail
        go_ret
        exact ⟨_, rfl, by rw [HP.out]; rfl, kk⟩
end Go.Proofs.YtodnkkmjjlfoiaaGreat

/- Players in a row; a Tournament -/
namespace Go.Proofs.YtodnkkmjjlfoiaaGreat
open Go.RowKit

def dPl : Pl := ⟨0, zeroC, 0⟩
/-- the seven cells of a Player -/
structure Cell7 (w : World) (b o : Nat) (x : Pl) (pv mv : Value) : Prop where
  c0 : w.cell? ⟨b, o, none⟩ = some (.int .i64 x.frm)
  c1 : w.cell? ⟨b, o + 1, none⟩ = some (.int .i64 x.ca.pol)
  c2 : w.cell? ⟨b, o + 2, none⟩ = some (.int .i64 x.ca.size)
  c3 : w.cell? ⟨b, o + 3, none⟩ = some pv
  c4 : w.cell? ⟨b, o + 4, none⟩ = some mv
  c5 : w.cell? ⟨b, o + 5, none⟩ = some (.int .i64 x.ca.hand)
  c6 : w.cell? ⟨b, o + 6, none⟩ = some (.int .i64 x.fa)
theorem Cell7.step {S : Nat → Prop} {w w' : World} {b o : Nat} {x : Pl} {pv mv : Value} (h : Cell7 w b o x pv mv) (hc : Chg S w w') (hb : b < w.heap.size) (hS : ¬ S b) : Cell7 w' b o x pv mv :=
  ⟨(hc.cellD b _ hb hS).trans h.c0, (hc.cellD b _ hb hS).trans h.c1, (hc.cellD b _ hb hS).trans h.c2, (hc.cellD b _ hb hS).trans h.c3, (hc.cellD b _ hb hS).trans h.c4, (hc.cellD b _ hb hS).trans h.c5, (hc.cellD b _ hb hS).trans h.c6⟩
/-- a slice of Players that is read -/
def RPS (A : Nat → Prop) (w : World) (v : Value) (ls : List Pl) : Prop :=
  ∃ a cap, v = .slice a ls.length cap ∧ ls.length ≤ cap ∧ cap ≤ 9223372036854775807 ∧ ls.length ≤ 1048576 ∧ ∃ pf mf : Nat → Value,
    (∀ i, i < ls.length → RI A w (pf i) (ls.getD i dPl).ca.pages ∧ RI A w (mf i) (ls.getD i dPl).ca.marks) ∧
    (ls ≠ [] → ∃ b off, a = some ⟨b, off, none⟩ ∧ ¬ A b ∧ b < w.heap.size ∧ ∀ i, i < ls.length → Cell7 w b (off + i * 7) (ls.getD i dPl) (pf i) (mf i))
theorem RPS.keep {A : Nat → Prop} {w w' : World} {v : Value} {ls : List Pl} (h : RPS A w v ls) (hc : Chg No w w') : RPS A w' v ls := by
  obtain ⟨a, cap, rfl, h1, h2, h3, pf, mf, h4, h5⟩ := h
  refine ⟨a, cap, rfl, h1, h2, h3, pf, mf, fun i hi => ⟨(h4 i hi).1.keep hc, (h4 i hi).2.keep hc⟩, fun hl => ?_⟩
  obtain ⟨b, off, rfl, hA, hb, hcell⟩ := h5 hl
  exact ⟨b, off, rfl, hA, Nat.lt_of_lt_of_le hb hc.size, fun i hi => (hcell i hi).step hc hb (fun e => e)⟩
structure To where
  items : Int
  ps : List Pl
  reqs : List Int
/-- a Tournament by value -/
def RT (A : Nat → Prop) (w : World) (v : Value) (t : To) : Prop := ∃ pv rv, v = .agg #[.int .i64 t.items, pv, rv] ∧ RPS A w pv t.ps ∧ RI A w rv t.reqs
theorem RT.keep {A : Nat → Prop} {w w' : World} {v : Value} {t : To} (h : RT A w v t) (hc : Chg No w w') : RT A w' v t := by
  obtain ⟨pv, rv, rfl, h1, h2⟩ := h
  exact ⟨pv, rv, rfl, h1.keep hc, h2.keep hc⟩
structure Box3 (w : World) (b : Nat) (v0 v1 v2 : Value) : Prop where
  c0 : w.cell? ⟨b, 0, none⟩ = some v0
  c1 : w.cell? ⟨b, 1, none⟩ = some v1
  c2 : w.cell? ⟨b, 2, none⟩ = some v2
  fr : ∀ o, w.frozen? ⟨b, o, none⟩ = false
theorem Box3.lt {w : World} {b : Nat} {v0 v1 v2 : Value} (h : Box3 w b v0 v1 v2) : b < w.heap.size := World.block_lt_of_cell? w _ h.c0
theorem Box3.step {S : Nat → Prop} {w w' : World} {b : Nat} {v0 v1 v2 : Value} (h : Box3 w b v0 v1 v2) (hc : Chg S w w') (hS : ¬ S b) : Box3 w' b v0 v1 v2 := by
  have hb := h.lt
  exact ⟨(hc.cellD b 0 hb hS).trans h.c0, (hc.cellD b 1 hb hS).trans h.c1, (hc.cellD b 2 hb hS).trans h.c2, fun o => (World.frozen?_of_block (hc.block b hb hS)).trans (h.fr o)⟩
theorem Box3.keep {w w' : World} {b : Nat} {v0 v1 v2 : Value} (h : Box3 w b v0 v1 v2) (hc : Chg No w w') : Box3 w' b v0 v1 v2 := h.step hc (fun e => e)
theorem Box3.new (w : World) (v0 v1 v2 : Value) (t : TypeId) : Box3 (w.alloc (.cells #[v0, v1, v2] t)) w.heap.size v0 v1 v2 := by
  refine ⟨?_, ?_, ?_, fun o => World.frozen?_alloc_new _ _ _ _⟩ <;> (rw [World.cell?_alloc_new]; rfl)
theorem box31 {w : World} {t : TypeId} {x0 x1 x2 : Value} {R : World → Prop} (h : ∀ W, Chg No w W → Box3 W w.heap.size x0 x1 x2 → R W) : R (w.alloc (.cells #[x0, x1, x2] t)) :=
  h _ ((Chg.refl No w).alloc _) (Box3.new w x0 x1 x2 t)
def tourB (t : To) : Bool := reqB t.items t.reqs && (decide (t.ps.length ≤ 4) && t.ps.all fun x => playB x t.reqs)
def AllTo (p : Pl → Bool) (ls : List Pl) (j : Nat) : Prop := ∀ i, i < j → p (ls.getD i dPl) = true
theorem AllTo.succ {p : Pl → Bool} {ls : List Pl} {j : Nat} (h : AllTo p ls j) (hj : p (ls.getD j dPl) = true) : AllTo p ls (j + 1) := fun i hi => by
  by_cases e : i = j
  · rw [e]; exact hj
  · exact h i (by omega)
theorem AllTo.full {p : Pl → Bool} {ls : List Pl} (h : AllTo p ls ls.length) : ls.all p = true := by
  rw [List.all_eq_true]
  intro x hx
  obtain ⟨i, hi, rfl⟩ := List.getElem_of_mem hx
  have := h i hi
  rwa [List.getD_eq_getElem?_getD, List.getElem?_eq_getElem hi] at this
theorem all_no {p : Pl → Bool} {ls : List Pl} {j : Nat} (hj : j < ls.length) (h : p (ls.getD j dPl) = false) : ls.all p = false := by
  rw [List.all_eq_false]
  refine ⟨ls[j], List.getElem_mem hj, ?_⟩
  rw [List.getD_eq_getElem?_getD, List.getElem?_eq_getElem hj] at h
  simpa using h

set_option maxRecDepth 100000 in
set_option maxHeartbeats 2000000 in
theorem l12Tour_any (v : Value) (t : To) (w : World) (h : RT No w v t) :
    Calls Tryz.prog 39 #[v] w (Ret fun r w' => r = .bool (tourB t) ∧ Chg No w w') := by
  obtain ⟨it, ps, rq⟩ := t
  obtain ⟨pv, rv, rfl, hps, hrq⟩ := h
  simp only at hps hrq ⊢
  obtain ⟨ra, rc, rfl, _⟩ := id hrq
  obtain ⟨a, cap, rfl, hcap, hmax, hlen, pf, mf, hl, hcl⟩ := id hps
  have k0 := (Chg.refl No w).alloc (.cells #[.int .i64 it, .slice a ps.length cap, .slice ra rq.length rc] 31)
  have b0 := Box3.new w (.int .i64 it) (.slice a ps.length cap) (.slice ra rq.length rc) 31
  cases h1 : reqB it rq
  · have HT : Hid (tourB ⟨it, ps, rq⟩ = false) := Lib.hid (by simp [tourB, h1])
    have H1 : Hid ((inB it 1 8 && decide (rq.length ≤ 60) && belowB it rq) = false) := Lib.hid h1
    clear h1 hl hcl
    go_enter Tryz.func39, Tryz.ntmps39
    go_wp2_with fail
    refine (l3Good_any No _ rq it _ (hrq.keep k0)).mono ?_
    rintro e w1 ⟨rfl, rfl⟩
    rw [H1.out]
    go_wp2_with fail
    go_ret
    exact ⟨_, rfl, by rw [HT.out]; rfl, k0⟩
  · have H1 : Hid ((inB it 1 8 && decide (rq.length ≤ 60) && belowB it rq) = true) := Lib.hid h1
    by_cases h4 : ps.length ≤ 4
    · have HT : Hid (tourB ⟨it, ps, rq⟩ = ps.all fun x => playB x rq) := Lib.hid (by simp [tourB, h1, h4])
      have h4i : ¬ (4 : Int) < (ps.length : Int) := by omega
      have HL := Lib.hid hl
      have HC := Lib.hid hcl
      clear h1 h4 hl hcl
      go_enter Tryz.func39, Tryz.ntmps39
      go_wp2_with fail
      refine (l3Good_any No _ rq it _ (hrq.keep k0)).mono ?_
      rintro e w1 ⟨rfl, rfl⟩
      rw [H1.out]
      go_wp2_with fail
      go_loopw [3] (fun i wr => ∃ j : Nat, j ≤ ps.length ∧ i = .int .i64 j ∧ Hid (AllTo (fun x => playB x rq) ps j) ∧ Box3 wr w.heap.size (.int .i64 it) (.slice a ps.length cap) (.slice ra rq.length rc) ∧ Chg No w wr) (fun i _ => ps.length - (intOf i).toNat)
      case atStart => exact ⟨0, Nat.zero_le _, rfl, Lib.hid (fun i hi => absurd hi (Nat.not_lt_zero _)), b0, k0⟩
      case round =>
        clear b0 k0
        obtain ⟨j, hj, rfl, HA, hb3, hch⟩ := hrel
        by_cases hlt : j < ps.length
        · obtain ⟨b, off, rfl, _, hb, hcell⟩ := HC.out (by intro e; simp [e] at hlt)
          have h7 := hcell j hlt
          obtain ⟨hpj, hmj⟩ := HL.out j hlt
          have hno := all_no (p := fun x => playB x rq) hlt
          have hsu := HA.out.succ (p := fun x => playB x rq)
          obtain ⟨y, hy⟩ : ∃ y, ps.getD j dPl = y := ⟨_, rfl⟩
          rw [hy] at h7 hpj hmj hno hsu
          have HN := Lib.hid hno
          have HS := Lib.hid hsu
          clear hcell hno hsu hy
          have hj0 : (0 : Int) ≤ (j : Int) := Int.natCast_nonneg _
          have hj1 : (j : Int) < (ps.length : Int) := by omega
          have hw1 : IntKind.i64.wrap ((j : Int) + 1) = (j : Int) + 1 := IntWalk.i64_in _ (by omega)
          obtain ⟨pj, hpe⟩ : ∃ pj, pf j = pj := ⟨_, rfl⟩
          obtain ⟨mj, hme⟩ : ∃ mj, mf j = mj := ⟨_, rfl⟩
          rw [hpe] at hpj h7
          rw [hme] at hmj h7
          clear hpe hme
          obtain ⟨ya, yn, yc, rfl⟩ := hpj.shape
          obtain ⟨za, zn, zc, rfl⟩ := hmj.shape
          obtain ⟨C, hC1, hC2⟩ : ∃ C : World → Prop, (∀ W, C W → Box3 W w.heap.size (.int .i64 it) (.slice (some ⟨b, off, none⟩) ps.length cap) (.slice ra rq.length rc) ∧ Chg No w W) ∧
              (∀ W, Box3 W w.heap.size (.int .i64 it) (.slice (some ⟨b, off, none⟩) ps.length cap) (.slice ra rq.length rc) → Chg No w W → C W) := ⟨_, fun _ h => h, fun _ h h' => ⟨h, h'⟩⟩
          have HCELL : Hid (∀ W, C W → W.cell? ⟨w.heap.size, 0, none⟩ = some (.int .i64 it) ∧ W.cell? ⟨w.heap.size, 1, none⟩ = some (.slice (some ⟨b, off, none⟩) ps.length cap) ∧ W.cell? ⟨w.heap.size, 2, none⟩ = some (.slice ra rq.length rc) ∧
              W.cell? ⟨b, off + j * 7, none⟩ = some (.int .i64 y.frm) ∧ W.cell? ⟨b, off + j * 7 + 1, none⟩ = some (.int .i64 y.ca.pol) ∧ W.cell? ⟨b, off + j * 7 + 2, none⟩ = some (.int .i64 y.ca.size) ∧ W.cell? ⟨b, off + j * 7 + 3, none⟩ = some (.slice ya yn yc) ∧
              W.cell? ⟨b, off + j * 7 + 4, none⟩ = some (.slice za zn zc) ∧ W.cell? ⟨b, off + j * 7 + 5, none⟩ = some (.int .i64 y.ca.hand) ∧ W.cell? ⟨b, off + j * 7 + 6, none⟩ = some (.int .i64 y.fa) ∧ True) := Lib.hid (fun W hW => by
            obtain ⟨g1, g2⟩ := hC1 W hW
            have g3 := h7.step g2 hb (fun e => e)
            exact ⟨g1.c0, g1.c1, g1.c2, g3.c0, g3.c1, g3.c2, g3.c3, g3.c4, g3.c5, g3.c6, trivial⟩)
          have HK : Hid (∀ W W', C W → Chg No W W' → C W') := Lib.hid (fun W W' hW hk => hC2 W' ((hC1 W hW).1.keep hk) ((hC1 W hW).2.keep hk))
          have HX := Lib.hid hC1
          have hC0 := hC2 _ (hb3.keep (Chg.refl No _).drew) hch.drew
          obtain ⟨c0, c1, c2, _⟩ := id hb3
          clear hC1 hC2 h7
          go_wp2_with fail
          refine wp_region_X C (by kernel_rfl) (by kernel_rfl) hC0 ?_
          clear c0 c1 c2 hC0
          refine wpX_val (.pointer (some ⟨w.heap.size, 1, none⟩)) rfl (by intro W hW; obtain ⟨c0, c1, c2, d0, d1, d2, d3, d4, d5, d6, _⟩ := HCELL.out W hW; go_simp) ?_
          simp only [Act.put, List.setIfInBounds_toArray, List.set_cons_zero, List.set_cons_succ]
          refine wpX_val (.slice (some ⟨b, off, none⟩) ps.length cap) rfl (by intro W hW; obtain ⟨c0, c1, c2, d0, d1, d2, d3, d4, d5, d6, _⟩ := HCELL.out W hW; go_simp) ?_
          simp only [Act.put, List.setIfInBounds_toArray, List.set_cons_zero, List.set_cons_succ]
          refine wpX_val (.int .i64 j) rfl (by intro W hW; obtain ⟨c0, c1, c2, d0, d1, d2, d3, d4, d5, d6, _⟩ := HCELL.out W hW; go_simp) ?_
          simp only [Act.put, List.setIfInBounds_toArray, List.set_cons_zero, List.set_cons_succ]
          refine wpX_val (.pointer (some ⟨b, off + j * 7, none⟩)) rfl (by intro W hW; obtain ⟨c0, c1, c2, d0, d1, d2, d3, d4, d5, d6, _⟩ := HCELL.out W hW; go_simp) ?_
          simp only [Act.put, List.setIfInBounds_toArray, List.set_cons_zero, List.set_cons_succ]
          refine wpX_val (.agg #[.int .i64 y.frm, .int .i64 y.ca.pol, .int .i64 y.ca.size, .slice ya yn yc, .slice za zn zc, .int .i64 y.ca.hand, .int .i64 y.fa]) rfl (by intro W hW; obtain ⟨c0, c1, c2, d0, d1, d2, d3, d4, d5, d6, _⟩ := HCELL.out W hW; go_simp) ?_
          simp only [Act.put, List.setIfInBounds_toArray, List.set_cons_zero, List.set_cons_succ]
          refine wpX_val (.pointer (some ⟨w.heap.size, 2, none⟩)) rfl (by intro W hW; obtain ⟨c0, c1, c2, d0, d1, d2, d3, d4, d5, d6, _⟩ := HCELL.out W hW; go_simp) ?_
          simp only [Act.put, List.setIfInBounds_toArray, List.set_cons_zero, List.set_cons_succ]
          refine wpX_val (.slice ra rq.length rc) rfl (by intro W hW; obtain ⟨c0, c1, c2, d0, d1, d2, d3, d4, d5, d6, _⟩ := HCELL.out W hW; go_simp) ?_
          simp only [Act.put, List.setIfInBounds_toArray, List.set_cons_zero, List.set_cons_succ]
          refine wpX_call (.bool (playB y rq)) (f := 78) (args := #[.agg #[.int .i64 y.frm, .int .i64 y.ca.pol, .int .i64 y.ca.size, .slice ya yn yc, .slice za zn zc, .int .i64 y.ca.hand, .int .i64 y.fa], .slice ra rq.length rc]) rfl (by intro W hW; go_simp)
            (fun W hW => (l12Plays_any No _ _ y rq W ⟨_, _, rfl, hpj.keep (HX.out W hW).2, hmj.keep (HX.out W hW).2⟩ (hrq.keep (HX.out W hW).2)).mono (by rintro e w' ⟨_, rfl, rfl, hk⟩; exact ⟨rfl, HK.out _ _ hW hk⟩)) ?_
          simp only [Act.put, List.setIfInBounds_toArray, List.set_cons_zero, List.set_cons_succ]
          refine wpX_val (.bool !(playB y rq)) rfl (by intro W hW; obtain ⟨c0, c1, c2, d0, d1, d2, d3, d4, d5, d6, _⟩ := HCELL.out W hW; go_simp) ?_
          simp only [Act.put, List.setIfInBounds_toArray, List.set_cons_zero, List.set_cons_succ]
          refine wpX_nil (fun W hW => ?_)
          obtain ⟨g1, g2⟩ := HX.out W hW
          cases hpb : playB y rq
          · simp only [Bool.not_false]
            go_wp2_with fail
            go_ret
            exact ⟨_, rfl, by rw [HT.out, HN.out hpb]; rfl, g2⟩
          · simp only [Bool.not_true]
            go_wp2_with fail
            go_round
            case rel => exact ⟨j + 1, by omega, by go_num, Lib.hid (HS.out hpb), g1, g2⟩
            case measure => simp [intOf]; omega
        · have hjl : j = ps.length := by omega
          subst hjl
          obtain ⟨c0, c1, c2, _⟩ := id hb3
          go_wp2_with fail
          go_ret
          exact ⟨_, rfl, by rw [HT.out, HA.out.full]; rfl, hch⟩
    · have HT : Hid (tourB ⟨it, ps, rq⟩ = false) := Lib.hid (by simp [tourB, h4])
      have h4i : (4 : Int) < (ps.length : Int) := by omega
      clear h1 h4 hl hcl
      go_enter Tryz.func39, Tryz.ntmps39
      go_wp2_with fail
      refine (l3Good_any No _ rq it _ (hrq.keep k0)).mono ?_
      rintro e w1 ⟨rfl, rfl⟩
      rw [H1.out]
      go_wp2_with fail
      go_ret
      exact ⟨_, rfl, by rw [HT.out]; rfl, k0⟩
end Go.Proofs.YtodnkkmjjlfoiaaGreat

/- what the laws' helpers do with a Player -/
namespace Go.Proofs.YtodnkkmjjlfoiaaGreat
open Go.RowKit

theorem Box7.set0 {w : World} {b : Nat} {v0 v1 v2 v3 v4 v5 v6 : Value} (h : Box7 w b v0 v1 v2 v3 v4 v5 v6) (x : Value) : Box7 (w.setCell ⟨b, 0, none⟩ x) b x v1 v2 v3 v4 v5 v6 :=
  ⟨World.cell?_setCell_same _ _ _ h.c0, (World.cell?_setCell_other _ _ _ _ (by simp)).trans h.c1, (World.cell?_setCell_other _ _ _ _ (by simp)).trans h.c2, (World.cell?_setCell_other _ _ _ _ (by simp)).trans h.c3, (World.cell?_setCell_other _ _ _ _ (by simp)).trans h.c4, (World.cell?_setCell_other _ _ _ _ (by simp)).trans h.c5, (World.cell?_setCell_other _ _ _ _ (by simp)).trans h.c6, fun o => (World.frozen?_setCell _ _ _ _).trans (h.fr o)⟩
theorem Box7.set1 {w : World} {b : Nat} {v0 v1 v2 v3 v4 v5 v6 : Value} (h : Box7 w b v0 v1 v2 v3 v4 v5 v6) (x : Value) : Box7 (w.setCell ⟨b, 1, none⟩ x) b v0 x v2 v3 v4 v5 v6 :=
  ⟨(World.cell?_setCell_other _ _ _ _ (by simp)).trans h.c0, World.cell?_setCell_same _ _ _ h.c1, (World.cell?_setCell_other _ _ _ _ (by simp)).trans h.c2, (World.cell?_setCell_other _ _ _ _ (by simp)).trans h.c3, (World.cell?_setCell_other _ _ _ _ (by simp)).trans h.c4, (World.cell?_setCell_other _ _ _ _ (by simp)).trans h.c5, (World.cell?_setCell_other _ _ _ _ (by simp)).trans h.c6, fun o => (World.frozen?_setCell _ _ _ _).trans (h.fr o)⟩
theorem Box7.set2 {w : World} {b : Nat} {v0 v1 v2 v3 v4 v5 v6 : Value} (h : Box7 w b v0 v1 v2 v3 v4 v5 v6) (x : Value) : Box7 (w.setCell ⟨b, 2, none⟩ x) b v0 v1 x v3 v4 v5 v6 :=
  ⟨(World.cell?_setCell_other _ _ _ _ (by simp)).trans h.c0, (World.cell?_setCell_other _ _ _ _ (by simp)).trans h.c1, World.cell?_setCell_same _ _ _ h.c2, (World.cell?_setCell_other _ _ _ _ (by simp)).trans h.c3, (World.cell?_setCell_other _ _ _ _ (by simp)).trans h.c4, (World.cell?_setCell_other _ _ _ _ (by simp)).trans h.c5, (World.cell?_setCell_other _ _ _ _ (by simp)).trans h.c6, fun o => (World.frozen?_setCell _ _ _ _).trans (h.fr o)⟩
theorem Box7.set3 {w : World} {b : Nat} {v0 v1 v2 v3 v4 v5 v6 : Value} (h : Box7 w b v0 v1 v2 v3 v4 v5 v6) (x : Value) : Box7 (w.setCell ⟨b, 3, none⟩ x) b v0 v1 v2 x v4 v5 v6 :=
  ⟨(World.cell?_setCell_other _ _ _ _ (by simp)).trans h.c0, (World.cell?_setCell_other _ _ _ _ (by simp)).trans h.c1, (World.cell?_setCell_other _ _ _ _ (by simp)).trans h.c2, World.cell?_setCell_same _ _ _ h.c3, (World.cell?_setCell_other _ _ _ _ (by simp)).trans h.c4, (World.cell?_setCell_other _ _ _ _ (by simp)).trans h.c5, (World.cell?_setCell_other _ _ _ _ (by simp)).trans h.c6, fun o => (World.frozen?_setCell _ _ _ _).trans (h.fr o)⟩
theorem Box7.set4 {w : World} {b : Nat} {v0 v1 v2 v3 v4 v5 v6 : Value} (h : Box7 w b v0 v1 v2 v3 v4 v5 v6) (x : Value) : Box7 (w.setCell ⟨b, 4, none⟩ x) b v0 v1 v2 v3 x v5 v6 :=
  ⟨(World.cell?_setCell_other _ _ _ _ (by simp)).trans h.c0, (World.cell?_setCell_other _ _ _ _ (by simp)).trans h.c1, (World.cell?_setCell_other _ _ _ _ (by simp)).trans h.c2, (World.cell?_setCell_other _ _ _ _ (by simp)).trans h.c3, World.cell?_setCell_same _ _ _ h.c4, (World.cell?_setCell_other _ _ _ _ (by simp)).trans h.c5, (World.cell?_setCell_other _ _ _ _ (by simp)).trans h.c6, fun o => (World.frozen?_setCell _ _ _ _).trans (h.fr o)⟩
theorem Box7.set5 {w : World} {b : Nat} {v0 v1 v2 v3 v4 v5 v6 : Value} (h : Box7 w b v0 v1 v2 v3 v4 v5 v6) (x : Value) : Box7 (w.setCell ⟨b, 5, none⟩ x) b v0 v1 v2 v3 v4 x v6 :=
  ⟨(World.cell?_setCell_other _ _ _ _ (by simp)).trans h.c0, (World.cell?_setCell_other _ _ _ _ (by simp)).trans h.c1, (World.cell?_setCell_other _ _ _ _ (by simp)).trans h.c2, (World.cell?_setCell_other _ _ _ _ (by simp)).trans h.c3, (World.cell?_setCell_other _ _ _ _ (by simp)).trans h.c4, World.cell?_setCell_same _ _ _ h.c5, (World.cell?_setCell_other _ _ _ _ (by simp)).trans h.c6, fun o => (World.frozen?_setCell _ _ _ _).trans (h.fr o)⟩
theorem Box7.set6 {w : World} {b : Nat} {v0 v1 v2 v3 v4 v5 v6 : Value} (h : Box7 w b v0 v1 v2 v3 v4 v5 v6) (x : Value) : Box7 (w.setCell ⟨b, 6, none⟩ x) b v0 v1 v2 v3 v4 v5 x :=
  ⟨(World.cell?_setCell_other _ _ _ _ (by simp)).trans h.c0, (World.cell?_setCell_other _ _ _ _ (by simp)).trans h.c1, (World.cell?_setCell_other _ _ _ _ (by simp)).trans h.c2, (World.cell?_setCell_other _ _ _ _ (by simp)).trans h.c3, (World.cell?_setCell_other _ _ _ _ (by simp)).trans h.c4, (World.cell?_setCell_other _ _ _ _ (by simp)).trans h.c5, World.cell?_setCell_same _ _ _ h.c6, fun o => (World.frozen?_setCell _ _ _ _).trans (h.fr o)⟩
theorem boxes73 {w : World} {t t' t'' : TypeId} {x0 x1 x2 x3 x4 x5 x6 y0 y1 y2 y3 y4 y5 y6 z0 z1 z2 z3 z4 z5 z6 : Value} {R : World → Prop} (h : ∀ W, Chg No w W → Box7 W w.heap.size x0 x1 x2 x3 x4 x5 x6 → Box7 W (w.heap.size + 1) y0 y1 y2 y3 y4 y5 y6 → Box7 W (w.heap.size + 1 + 1) z0 z1 z2 z3 z4 z5 z6 → R W) :
    R (((w.alloc (.cells #[x0, x1, x2, x3, x4, x5, x6] t)).alloc (.cells #[y0, y1, y2, y3, y4, y5, y6] t')).alloc (.cells #[z0, z1, z2, z3, z4, z5, z6] t'')) :=
  h _ ((((Chg.refl No w).alloc _).alloc _).alloc _) ((Box7.new w _ _ _ _ _ _ _ t).keep (((Chg.refl No _).alloc _).alloc _))
    (((Box7.new (w.alloc (.cells #[x0, x1, x2, x3, x4, x5, x6] t)) _ _ _ _ _ _ _ t').keep ((Chg.refl No _).alloc _)).at (by simp)) ((Box7.new ((w.alloc (.cells #[x0, x1, x2, x3, x4, x5, x6] t)).alloc (.cells #[y0, y1, y2, y3, y4, y5, y6] t')) _ _ _ _ _ _ _ t'').at (by simp))
theorem boxes72 {w : World} {t t' : TypeId} {x0 x1 x2 x3 x4 x5 x6 y0 y1 y2 y3 y4 y5 y6 : Value} {R : World → Prop} (h : ∀ W, Chg No w W → Box7 W w.heap.size x0 x1 x2 x3 x4 x5 x6 → Box7 W (w.heap.size + 1) y0 y1 y2 y3 y4 y5 y6 → R W) :
    R ((w.alloc (.cells #[x0, x1, x2, x3, x4, x5, x6] t)).alloc (.cells #[y0, y1, y2, y3, y4, y5, y6] t')) :=
  h _ (((Chg.refl No w).alloc _).alloc _) ((Box7.new w _ _ _ _ _ _ _ t).keep ((Chg.refl No _).alloc _))
    ((Box7.new (w.alloc (.cells #[x0, x1, x2, x3, x4, x5, x6] t)) _ _ _ _ _ _ _ t').at (by simp))

set_option maxRecDepth 100000 in
set_option maxHeartbeats 1000000 in
theorem szPlayer_any (f p k hd fa : Int) (a a' : Option Addr) (n n' c c' : Nat) (left : Int) (w : World) (hn : n ≤ 9223372036854775807) (hn' : n' ≤ 9223372036854775807) (h0 : 0 ≤ left) (h1 : left ≤ 1048576) :
    Calls Tryz.prog 76 #[.agg #[.int .i64 f, .int .i64 p, .int .i64 k, .slice a n c, .slice a' n' c', .int .i64 hd, .int .i64 fa], .int .i64 left] w (Ret fun r w' => r = .int .i64 (szC n n' left) ∧ Chg No w w') := by
  have k0 := (Chg.refl No w).alloc (.cells #[.int .i64 f, .int .i64 p, .int .i64 k, .slice a n c, .slice a' n' c', .int .i64 hd, .int .i64 fa] 112)
  by_cases hl : (n : Int) + n' ≤ left
  · have E : Hid (szC n n' left = left - n - n') := Lib.hid (if_pos hl)
    have hneg : ¬ (left - (n : Int) - (n' : Int) < 0) := by omega
    clear hl
    go_enter Tryz.func76, Tryz.ntmps76
    go_wp2_with fail
    refine (szCache_any p k hd a a' n n' c c' left _ hn hn' h0 h1).mono ?_
    rintro e w1 ⟨_, rfl, rfl, k1⟩
    rw [E.out]
    go_wp2_with fail
    go_ret
    exact ⟨_, rfl, by rw [E.out]; rfl, k0.keep k1⟩
  · have E : Hid (szC n n' left = -1) := Lib.hid (if_neg hl)
    clear hl
    go_enter Tryz.func76, Tryz.ntmps76
    go_wp2_with fail
    refine (szCache_any p k hd a a' n n' c c' left _ hn hn' h0 h1).mono ?_
    rintro e w1 ⟨_, rfl, rfl, k1⟩
    rw [E.out]
    go_wp2_with fail
    go_ret
    exact ⟨_, rfl, by rw [E.out]; rfl, k0.keep k1⟩

set_option maxRecDepth 100000 in
set_option maxHeartbeats 1000000 in
theorem eqPlayer_same (A B : Nat → Prop) (v v' : Value) (x : Pl) (w : World) (h : RP A w v x) (h' : RP B w v' x) :
    Calls Tryz.prog 102 #[v, v'] w (Ret fun r w' => r = .bool true ∧ Chg No w w') := by
  have h0 := h
  have h0' := h'
  obtain ⟨pv, mv, rfl, hp, hmk⟩ := h
  obtain ⟨pv', mv', rfl, hp', hmk'⟩ := h'
  obtain ⟨pa, pn, pc, rfl⟩ := hp.shape
  obtain ⟨ma, mn, mc, rfl⟩ := hmk.shape
  obtain ⟨pa', pn', pc', rfl⟩ := hp'.shape
  obtain ⟨ma', mn', mc', rfl⟩ := hmk'.shape
  go_enter Tryz.func102, Tryz.ntmps102
  go_wp2_with fail
  refine boxes72 (R := fun W => Calls _ _ _ W _) (fun W hW b0 b1 => ?_)
  refine (eqCache_same A B _ _ x.ca W (h0.keep hW).cache (h0'.keep hW).cache).mono ?_
  rintro e w1 ⟨_, rfl, rfl, k1⟩
  obtain ⟨c0, c1, c2, c3, c4, c5, c6, _⟩ := b0.keep k1
  obtain ⟨d0, d1, d2, d3, d4, d5, d6, _⟩ := b1.keep k1
  go_wp2_with fail
  go_ret
  exact ⟨_, rfl, rfl, hW.keep k1⟩

set_option maxRecDepth 100000 in
set_option maxHeartbeats 1000000 in
theorem toPlayer_any (A : Nat → Prop) (v : Value) (x : Pl) (w : World) (h : RP A w v x) :
    Calls Tryz.prog 88 #[v] w (Ret fun r w' => RPO w.heap.size w' r x ∧ Chg No w w') := by
  have h0 := h
  obtain ⟨pv, mv, rfl, hp, hmk⟩ := h
  obtain ⟨pa, pn, pc, rfl⟩ := hp.shape
  obtain ⟨ma, mn, mc, rfl⟩ := hmk.shape
  go_enter Tryz.func88, Tryz.ntmps88
  go_wp2_with fail
  refine boxes73 (R := fun W => Calls _ _ _ W _) (fun W hW b0 b1 b2 => ?_)
  have hsz := hW.size
  have hl2 := b2.lt
  refine (toCache_any A _ x.ca W (h0.keep hW).cache).mono ?_
  rintro e w1 ⟨v1, rfl, o1, k1⟩
  obtain ⟨xp, xm, rfl, hxp, hxm, hxa⟩ := o1
  obtain ⟨ya, yn, yc, rfl⟩ := hxp.shape
  obtain ⟨za, zn, zc, rfl⟩ := hxm.shape
  have b0 := b0.keep k1
  have b1 := b1.keep k1
  have b2 := b2.keep k1
  have hW1 := hW.keep k1
  have hs1 := hW1.size
  obtain ⟨_, g1, g2, g3, g4, g5, _, gf⟩ := id b2
  have gf1 := gf 1
  have gf2 := gf 2
  have gf3 := gf 3
  have gf4 := gf 4
  have gf5 := gf 5
  clear gf
  have ch : Chg (fun q => q = w.heap.size + 1 + 1) w1 (((((w1.setCell ⟨w.heap.size + 1 + 1, 1, none⟩ (.int .i64 x.ca.pol)).setCell ⟨w.heap.size + 1 + 1, 2, none⟩ (.int .i64 x.ca.size)).setCell ⟨w.heap.size + 1 + 1, 3, none⟩ (.slice ya yn yc)).setCell ⟨w.heap.size + 1 + 1, 4, none⟩ (.slice za zn zc)).setCell ⟨w.heap.size + 1 + 1, 5, none⟩ (.int .i64 x.ca.hand)) :=
    ((((((Chg.refl (fun q => q = w.heap.size + 1 + 1) w1).setCell (p := ⟨w.heap.size + 1 + 1, 1, none⟩) (fun _ => rfl) _).setCell (p := ⟨w.heap.size + 1 + 1, 2, none⟩) (fun _ => rfl) _).setCell (p := ⟨w.heap.size + 1 + 1, 3, none⟩) (fun _ => rfl) _).setCell (p := ⟨w.heap.size + 1 + 1, 4, none⟩) (fun _ => rfl) _).setCell (p := ⟨w.heap.size + 1 + 1, 5, none⟩) (fun _ => rfl) _)
  have B2 := ((((b2.set1 (.int .i64 x.ca.pol)).set2 (.int .i64 x.ca.size)).set3 (.slice ya yn yc)).set4 (.slice za zn zc)).set5 (.int .i64 x.ca.hand)
  have B0 := b0.step ch (by show ¬ _ = _; omega)
  have B1 := b1.step ch (by show ¬ _ = _; omega)
  have q6 := B0.c6
  have q2 := B2.c6
  have q2f := B2.fr 6
  have C2 := B2.set6 (.int .i64 x.fa)
  have C1 := B1.far ⟨w.heap.size + 1 + 1, 6, none⟩ (.int .i64 x.fa) (by simp <;> omega)
  have ch2 := ch.setCell (p := ⟨w.heap.size + 1 + 1, 6, none⟩) (fun _ => rfl) (.int .i64 x.fa)
  obtain ⟨r0, r1, r2, r3, r4, r5, r6, _⟩ := id C2
  obtain ⟨s0, s1, s2, s3, s4, s5, s6, sf⟩ := id C1
  have sf0 := sf 0
  have sf1 := sf 1
  have sf2 := sf 2
  have sf3 := sf 3
  have sf4 := sf 4
  have sf5 := sf 5
  have sf6 := sf 6
  clear sf
  have hxp2 := (hxp.step ch2 (fun q hq e => by have := (hxp.lt q hq).1; omega)).put7 (b := w.heap.size + 1) (fun q hq e => by have := (hxp.lt q hq).1; omega) (.int .i64 x.frm) (.int .i64 x.ca.pol) (.int .i64 x.ca.size) (.slice ya yn yc) (.slice za zn zc) (.int .i64 x.ca.hand) (.int .i64 x.fa)
  have hxm2 := (hxm.step ch2 (fun q hq e => by have := (hxm.lt q hq).1; omega)).put7 (b := w.heap.size + 1) (fun q hq e => by have := (hxm.lt q hq).1; omega) (.int .i64 x.frm) (.int .i64 x.ca.pol) (.int .i64 x.ca.size) (.slice ya yn yc) (.slice za zn zc) (.int .i64 x.ca.hand) (.int .i64 x.fa)
  have hk := (hW1.step ch2 (fun q hq hl => by omega)).put7 (b := w.heap.size + 1) (fun h => by omega) (.int .i64 x.frm) (.int .i64 x.ca.pol) (.int .i64 x.ca.size) (.slice ya yn yc) (.slice za zn zc) (.int .i64 x.ca.hand) (.int .i64 x.fa)
  obtain ⟨z0, z1, z2, z3, z4, z5, z6, _⟩ := C1.put7 (.int .i64 x.frm) (.int .i64 x.ca.pol) (.int .i64 x.ca.size) (.slice ya yn yc) (.slice za zn zc) (.int .i64 x.ca.hand) (.int .i64 x.fa)
  clear ch ch2 B0 B1 B2 C1 C2 b0 b1 b2
  go_wp2_with fail
  refine bodyPost_ret (v := .agg #[.int .i64 x.frm, .int .i64 x.ca.pol, .int .i64 x.ca.size, .slice ya yn yc, .slice za zn zc, .int .i64 x.ca.hand, .int .i64 x.fa]) (by simp [results, Tryz.results88, go_sem, z0, z1, z2, z3, z4, z5, z6]) rfl ?_
  exact ⟨_, rfl, ⟨_, _, rfl, hxp2.weak (by omega), hxm2.weak (by omega), hxa⟩, hk⟩
end Go.Proofs.YtodnkkmjjlfoiaaGreat

/- what the laws' helpers do with Players in a row -/
namespace Go.Proofs.YtodnkkmjjlfoiaaGreat
open Go.RowKit

theorem Chg.row7 (w : World) (g o : Nat) (x0 x1 x2 x3 x4 x5 x6 : Value) : Chg (fun k => k = g) w (((((((w.setCell ⟨g, o, none⟩ x0).setCell ⟨g, o + 1, none⟩ x1).setCell ⟨g, o + 2, none⟩ x2).setCell ⟨g, o + 3, none⟩ x3).setCell ⟨g, o + 4, none⟩ x4).setCell ⟨g, o + 5, none⟩ x5).setCell ⟨g, o + 6, none⟩ x6) :=
  ((((((((Chg.refl (fun k => k = g) w).setCell (p := ⟨g, o, none⟩) (fun _ => rfl) x0).setCell (p := ⟨g, o + 1, none⟩) (fun _ => rfl) x1).setCell (p := ⟨g, o + 2, none⟩) (fun _ => rfl) x2).setCell (p := ⟨g, o + 3, none⟩) (fun _ => rfl) x3).setCell (p := ⟨g, o + 4, none⟩) (fun _ => rfl) x4).setCell (p := ⟨g, o + 5, none⟩) (fun _ => rfl) x5).setCell (p := ⟨g, o + 6, none⟩) (fun _ => rfl) x6)
theorem other7 (w : World) (g o q : Nat) (h : q < o ∨ o + 7 ≤ q) (x0 x1 x2 x3 x4 x5 x6 : Value) : (((((((w.setCell ⟨g, o, none⟩ x0).setCell ⟨g, o + 1, none⟩ x1).setCell ⟨g, o + 2, none⟩ x2).setCell ⟨g, o + 3, none⟩ x3).setCell ⟨g, o + 4, none⟩ x4).setCell ⟨g, o + 5, none⟩ x5).setCell ⟨g, o + 6, none⟩ x6).cell? ⟨g, q, none⟩ = w.cell? ⟨g, q, none⟩ := by
  rw [World.cell?_setCell_other _ _ _ _ (by simp <;> omega), World.cell?_setCell_other _ _ _ _ (by simp <;> omega), World.cell?_setCell_other _ _ _ _ (by simp <;> omega), World.cell?_setCell_other _ _ _ _ (by simp <;> omega), World.cell?_setCell_other _ _ _ _ (by simp <;> omega), World.cell?_setCell_other _ _ _ _ (by simp <;> omega), World.cell?_setCell_other _ _ _ _ (by simp <;> omega)]
theorem Cell7.row {w : World} {g o : Nat} (x : Pl) (pv mv : Value) (h : ∀ r, r < 7 → ∃ u, w.cell? ⟨g, o + r, none⟩ = some u) : Cell7 (((((((w.setCell ⟨g, o, none⟩ (.int .i64 x.frm)).setCell ⟨g, o + 1, none⟩ (.int .i64 x.ca.pol)).setCell ⟨g, o + 2, none⟩ (.int .i64 x.ca.size)).setCell ⟨g, o + 3, none⟩ pv).setCell ⟨g, o + 4, none⟩ mv).setCell ⟨g, o + 5, none⟩ (.int .i64 x.ca.hand)).setCell ⟨g, o + 6, none⟩ (.int .i64 x.fa)) g o x pv mv := by
  obtain ⟨u0, h0⟩ := h 0 (by omega)
  obtain ⟨u1, h1⟩ := h 1 (by omega)
  obtain ⟨u2, h2⟩ := h 2 (by omega)
  obtain ⟨u3, h3⟩ := h 3 (by omega)
  obtain ⟨u4, h4⟩ := h 4 (by omega)
  obtain ⟨u5, h5⟩ := h 5 (by omega)
  obtain ⟨u6, h6⟩ := h 6 (by omega)
  rw [Nat.add_zero] at h0
  have e : ∀ (w : World) (i j : Nat) (x : Value), i ≠ j → (w.setCell ⟨g, i, none⟩ x).cell? ⟨g, j, none⟩ = w.cell? ⟨g, j, none⟩ := fun w i j x hij => World.cell?_setCell_other _ _ _ _ (by simp <;> omega)
  refine ⟨?_, ?_, ?_, ?_, ?_, ?_, ?_⟩
  · rw [e _ (o + 6) (o) _ (by omega), e _ (o + 5) (o) _ (by omega), e _ (o + 4) (o) _ (by omega), e _ (o + 3) (o) _ (by omega), e _ (o + 2) (o) _ (by omega), e _ (o + 1) (o) _ (by omega)]; exact World.cell?_setCell_same _ _ _ h0
  · rw [e _ (o + 6) (o + 1) _ (by omega), e _ (o + 5) (o + 1) _ (by omega), e _ (o + 4) (o + 1) _ (by omega), e _ (o + 3) (o + 1) _ (by omega), e _ (o + 2) (o + 1) _ (by omega)]; exact World.cell?_setCell_same _ _ _ ((e _ (o) (o + 1) _ (by omega)).trans h1)
  · rw [e _ (o + 6) (o + 2) _ (by omega), e _ (o + 5) (o + 2) _ (by omega), e _ (o + 4) (o + 2) _ (by omega), e _ (o + 3) (o + 2) _ (by omega)]; exact World.cell?_setCell_same _ _ _ ((e _ (o + 1) (o + 2) _ (by omega)).trans ((e _ (o) (o + 2) _ (by omega)).trans h2))
  · rw [e _ (o + 6) (o + 3) _ (by omega), e _ (o + 5) (o + 3) _ (by omega), e _ (o + 4) (o + 3) _ (by omega)]; exact World.cell?_setCell_same _ _ _ ((e _ (o + 2) (o + 3) _ (by omega)).trans ((e _ (o + 1) (o + 3) _ (by omega)).trans ((e _ (o) (o + 3) _ (by omega)).trans h3)))
  · rw [e _ (o + 6) (o + 4) _ (by omega), e _ (o + 5) (o + 4) _ (by omega)]; exact World.cell?_setCell_same _ _ _ ((e _ (o + 3) (o + 4) _ (by omega)).trans ((e _ (o + 2) (o + 4) _ (by omega)).trans ((e _ (o + 1) (o + 4) _ (by omega)).trans ((e _ (o) (o + 4) _ (by omega)).trans h4))))
  · rw [e _ (o + 6) (o + 5) _ (by omega)]; exact World.cell?_setCell_same _ _ _ ((e _ (o + 4) (o + 5) _ (by omega)).trans ((e _ (o + 3) (o + 5) _ (by omega)).trans ((e _ (o + 2) (o + 5) _ (by omega)).trans ((e _ (o + 1) (o + 5) _ (by omega)).trans ((e _ (o) (o + 5) _ (by omega)).trans h5)))))
  · exact World.cell?_setCell_same _ _ _ ((e _ (o + 5) (o + 6) _ (by omega)).trans ((e _ (o + 4) (o + 6) _ (by omega)).trans ((e _ (o + 3) (o + 6) _ (by omega)).trans ((e _ (o + 2) (o + 6) _ (by omega)).trans ((e _ (o + 1) (o + 6) _ (by omega)).trans ((e _ (o) (o + 6) _ (by omega)).trans h6))))))
theorem elPlayers : El 29 69 (.agg #[.int .i64 0, .int .i64 0, .int .i64 0, .slice none 0 0, .slice none 0 0, .int .i64 0, .int .i64 0]) 7 88 := El.mk' Tryz.underlying29 (by kernel_rfl) rfl (by omega)
/-- a Player in a row of one's own -/
def CP (base : Nat) (w : World) (g o : Nat) (x : Pl) : Prop := ∃ pv mv, Cell7 w g o x pv mv ∧ OI base w pv x.ca.pages ∧ OI base w mv x.ca.marks
theorem RPS.make {base : Nat} {w : World} {g cap : Nat} {ls : List Pl} (h : ∀ i, i < ls.length → CP base w g (i * 7) (ls.getD i dPl)) (hc : ls.length ≤ cap) (hcap : cap ≤ 9223372036854775807) (hn : ls.length ≤ 1048576) (hg : g < w.heap.size) {A : Nat → Prop} (hA : ¬ A g) (hB : ∀ q, base ≤ q → ¬ A q) :
    RPS A w (.slice (some ⟨g, 0, none⟩) ls.length cap) ls := by
  have h' : ∀ i : Nat, ∃ p : Value × Value, i < ls.length → Cell7 w g (i * 7) (ls.getD i dPl) p.1 p.2 ∧ OI base w p.1 (ls.getD i dPl).ca.pages ∧ OI base w p.2 (ls.getD i dPl).ca.marks := fun i => by
    by_cases hi : i < ls.length
    · obtain ⟨pv, mv, h1⟩ := h i hi
      exact ⟨(pv, mv), fun _ => h1⟩
    · exact ⟨(undef, undef), fun e => absurd e hi⟩
  obtain ⟨f, hf⟩ := Classical.axiomOfChoice h'
  refine ⟨_, cap, rfl, hc, hcap, hn, fun i => (f i).1, fun i => (f i).2, fun i hi => ?_, fun _ => ⟨g, 0, rfl, hA, hg, fun i hi => ?_⟩⟩
  · obtain ⟨_, h2, h3⟩ := hf i hi
    exact ⟨h2.read (fun q hq => hB q (h2.lt q hq).1), h3.read (fun q hq => hB q (h3.lt q hq).1)⟩
  · rw [Nat.zero_add]; exact (hf i hi).1

set_option maxRecDepth 100000 in
set_option maxHeartbeats 2000000 in
theorem toPlayerS_any (v : Value) (ls : List Pl) (w : World) (h : RPS No w v ls) :
    Calls Tryz.prog 43 #[v] w (Ret fun r w' => RPS (fun q => q < w.heap.size) w' r ls ∧ Chg No w w') := by
  obtain ⟨a, cap, rfl, hcap, hmax, hlen, pf, mf, hl, hcl⟩ := id h
  obtain ⟨i0, hi, hz0, hz1, hz2⟩ := elPlayers.info
  have hL : ls.length ≤ 1099511627776 := by omega
  go_enter Tryz.func43, Tryz.ntmps43
  go_wp2_with (refine wpList_make_full _ rfl (.tmp 6) (.tmp 6) 29 rfl w.heap.size 69 i0 (.agg #[.int .i64 0, .int .i64 0, .int .i64 0, .slice none 0 0, .slice none 0 0, .int .i64 0, .int .i64 0]) 7 elPlayers.und hi hz0 hz1 .i64 .i64 _ _ ls.length rfl rfl rfl rfl (by rw [hz2]; omega) (by unfold maxLen; omega) (Nat.le_refl _) ?_)
  intro W hW hg
  have hch0 := Chg.grownNone hg
  have hO : ∃ cs, OS 69 7 w.heap.size W (.slice (some ⟨w.heap.size, 0, none⟩) ls.length ls.length) ls.length cs := ⟨_, hL, hW⟩
  obtain ⟨cs0, hO0⟩ := hO
  have hgb := hO0.at.2.2.2.1
  have HL := Lib.hid hl
  have HC := Lib.hid hcl
  clear hg hW hz0 hz1 hz2 hi hl hcl
  go_wp2_with fail
  go_loopw [4] (fun i wr => ∃ (j : Nat) (cs : List Value), j ≤ ls.length ∧ i = .int .i64 j ∧ OS 69 7 w.heap.size wr (.slice (some ⟨w.heap.size, 0, none⟩) ls.length ls.length) ls.length cs ∧ (∀ q, q < j → CP (w.heap.size + 1) wr w.heap.size (q * 7) (ls.getD q dPl)) ∧ Chg No w wr) (fun i _ => ls.length - (intOf i).toNat)
  case atStart => exact ⟨0, cs0, Nat.zero_le _, rfl, hO0, fun q hq => absurd hq (Nat.not_lt_zero _), hch0⟩
  case round =>
    obtain ⟨j, cs, hj, rfl, hO, hP, hch⟩ := hrel
    clear hO0 hch0 hgb
    by_cases hlt : j < ls.length
    · obtain ⟨b, off, rfl, _, hb, hcell⟩ := HC.out (by intro e; simp [e] at hlt)
      have h7 := (hcell j hlt).step hch hb (fun e => e)
      obtain ⟨hpj, hmj⟩ := HL.out j hlt
      obtain ⟨y, hy⟩ : ∃ y, ls.getD j dPl = y := ⟨_, rfl⟩
      rw [hy] at h7 hpj hmj
      have HY := Lib.hid hy
      have HP := Lib.hid hP
      clear hcell hy hP
      have hj0 : (0 : Int) ≤ (j : Int) := Int.natCast_nonneg _
      have hj1 : (j : Int) < (ls.length : Int) := by omega
      have hw1 : IntKind.i64.wrap ((j : Int) + 1) = (j : Int) + 1 := IntWalk.i64_in _ (by omega)
      obtain ⟨pj, hpe⟩ : ∃ pj, pf j = pj := ⟨_, rfl⟩
      obtain ⟨mj, hme⟩ : ∃ mj, mf j = mj := ⟨_, rfl⟩
      rw [hpe] at hpj h7
      rw [hme] at hmj h7
      clear hpe hme
      obtain ⟨ya, yn, yc, rfl⟩ := hpj.shape
      obtain ⟨za, zn, zc, rfl⟩ := hmj.shape
      obtain ⟨g0, g1, g2, g3, g4, g5, g6⟩ := id h7
      have hgw := hO.at.2.2.2.1
      go_wp2_with fail
      refine (toPlayer_any No _ y wr ⟨_, _, rfl, hpj.keep hch, hmj.keep hch⟩).mono ?_
      rintro e w1 ⟨v1, rfl, o1, k1⟩
      obtain ⟨xp, xm, rfl, hxp, hxm, hxa⟩ := o1
      obtain ⟨oa, on, oc, rfl⟩ := hxp.shape
      obtain ⟨qa, qn, qc, rfl⟩ := hxm.shape
      have hO1 := hO.keep k1
      have hch1 := hch.keep k1
      have hcl7 := hO1.cl
      have hcells : ∀ r, r < 7 → ∃ u, w1.cell? ⟨w.heap.size, j * 7 + r, none⟩ = some u := fun r hr => ⟨_, hO1.at.1 (j * 7 + r) (by rw [hcl7]; omega)⟩
      have hfz := hO1.at.2.1
      clear g0 g1 g2 g3 g4 g5 g6 h7 hO
      obtain ⟨u0, hu0⟩ := hcells 0 (by omega)
      have fz0 := hfz (j * 7 + 0)
      obtain ⟨u1, hu1⟩ := hcells 1 (by omega)
      have fz1 := hfz (j * 7 + 1)
      obtain ⟨u2, hu2⟩ := hcells 2 (by omega)
      have fz2 := hfz (j * 7 + 2)
      obtain ⟨u3, hu3⟩ := hcells 3 (by omega)
      have fz3 := hfz (j * 7 + 3)
      obtain ⟨u4, hu4⟩ := hcells 4 (by omega)
      have fz4 := hfz (j * 7 + 4)
      obtain ⟨u5, hu5⟩ := hcells 5 (by omega)
      have fz5 := hfz (j * 7 + 5)
      obtain ⟨u6, hu6⟩ := hcells 6 (by omega)
      have fz6 := hfz (j * 7 + 6)
      rw [Nat.add_zero] at hu0 fz0
      have hO2 := (((((((hO1.store (j * 7) (.int .i64 y.frm)).1.store (j * 7 + 1) (.int .i64 y.ca.pol)).1.store (j * 7 + 2) (.int .i64 y.ca.size)).1.store (j * 7 + 3) (.slice oa on oc)).1.store (j * 7 + 4) (.slice qa qn qc)).1.store (j * 7 + 5) (.int .i64 y.ca.hand)).1.store (j * 7 + 6) (.int .i64 y.fa)).1
      have ck := Chg.row7 w1 w.heap.size (j * 7) (.int .i64 y.frm) (.int .i64 y.ca.pol) (.int .i64 y.ca.size) (.slice oa on oc) (.slice qa qn qc) (.int .i64 y.ca.hand) (.int .i64 y.fa)
      have hnew := Cell7.row (w := w1) (g := w.heap.size) (o := j * 7) y (.slice oa on oc) (.slice qa qn qc) hcells
      have hoth := fun q (hq : q < j * 7 ∨ j * 7 + 7 ≤ q) => other7 w1 w.heap.size (j * 7) q hq (.int .i64 y.frm) (.int .i64 y.ca.pol) (.int .i64 y.ca.size) (.slice oa on oc) (.slice qa qn qc) (.int .i64 y.ca.hand) (.int .i64 y.fa)
      have HNEW := Lib.hid hnew
      have HOTH := Lib.hid hoth
      have HCK := Lib.hid ck
      have HO2 := Lib.hid hO2
      have HHP := Lib.hid hxp
      have HHM := Lib.hid hxm
      clear hnew hoth ck hO2 hcells hfz
      go_wp2_with fail
      go_round
      case measure => simp [intOf]; omega
      case rel =>
        refine ⟨j + 1, _, by omega, by go_num, HO2.out, fun q hq => ?_, hch1.step HCK.out (fun k hk hl => by omega)⟩
        have hfar : ∀ {v : Value} {l : List Int} {base : Nat}, OI base w1 v l → w.heap.size < base → OI (w.heap.size + 1) _ v l := fun {v l base} h hb => (h.step HCK.out (fun k hk e => by have := (h.lt k hk).1; omega)).weak (by omega)
        by_cases hqj : q = j
        · subst hqj
          rw [HY.out]
          exact ⟨_, _, HNEW.out, hfar HHP.out hgw, hfar HHM.out hgw⟩
        · obtain ⟨pv, mv, ⟨e0, e1, e2, e3, e4, e5, e6⟩, h2, h3⟩ := HP.out q (by omega)
          have hbl : w.heap.size < wr.heap.size := hgw
          have kc : ∀ o, w1.cell? ⟨w.heap.size, o, none⟩ = wr.cell? ⟨w.heap.size, o, none⟩ := fun o => k1.cellD _ o hbl (fun e => e)
          exact ⟨pv, mv, ⟨(HOTH.out _ (by omega)).trans ((kc _).trans e0), (HOTH.out _ (by omega)).trans ((kc _).trans e1), (HOTH.out _ (by omega)).trans ((kc _).trans e2), (HOTH.out _ (by omega)).trans ((kc _).trans e3), (HOTH.out _ (by omega)).trans ((kc _).trans e4), (HOTH.out _ (by omega)).trans ((kc _).trans e5), (HOTH.out _ (by omega)).trans ((kc _).trans e6)⟩, hfar (h2.keep k1) (by omega), hfar (h3.keep k1) (by omega)⟩
    · have hjl : j = ls.length := by omega
      subst hjl
      have hr := RPS.make hP (Nat.le_refl _) (by omega) hlen hO.at.2.2.2.1 (A := fun q => q < w.heap.size) (by omega) (fun q hq => by omega)
      clear hP
      go_wp2_with fail
      go_ret
      exact ⟨_, rfl, hr, hch⟩
end Go.Proofs.YtodnkkmjjlfoiaaGreat

/- what the laws' helpers do with a Tournament -/
namespace Go.Proofs.YtodnkkmjjlfoiaaGreat
open Go.RowKit

theorem RPS.step {A T : Nat → Prop} {w w' : World} {v : Value} {ls : List Pl} (h : RPS A w v ls) (hc : Chg T w w') (hT : ∀ k, T k → A k) : RPS A w' v ls := by
  obtain ⟨a, cap, rfl, h1, h2, h3, pf, mf, h4, h5⟩ := h
  refine ⟨a, cap, rfl, h1, h2, h3, pf, mf, fun i hi => ⟨(h4 i hi).1.step hc hT, (h4 i hi).2.step hc hT⟩, fun hl => ?_⟩
  obtain ⟨b, off, rfl, hA, hb, hcell⟩ := h5 hl
  exact ⟨b, off, rfl, hA, Nat.lt_of_lt_of_le hb hc.size, fun i hi => (hcell i hi).step hc hb (fun e => hA (hT b e))⟩
theorem RPS.weakNo {A : Nat → Prop} {w : World} {v : Value} {ls : List Pl} (h : RPS A w v ls) : RPS No w v ls := by
  obtain ⟨a, cap, rfl, h1, h2, h3, pf, mf, h4, h5⟩ := h
  refine ⟨a, cap, rfl, h1, h2, h3, pf, mf, fun i hi => ⟨(h4 i hi).1.weak (fun _ e _ => e.elim), (h4 i hi).2.weak (fun _ e _ => e.elim)⟩, fun hl => ?_⟩
  obtain ⟨b, off, rfl, _, hb, hcell⟩ := h5 hl
  exact ⟨b, off, rfl, fun e => e, hb, hcell⟩
theorem RPS.weak {A B : Nat → Prop} {w : World} {v : Value} {ls : List Pl} (h : RPS A w v ls) (hB : ∀ k, B k → k < w.heap.size → A k) : RPS B w v ls := by
  obtain ⟨a, cap, rfl, h1, h2, h3, pf, mf, h4, h5⟩ := h
  refine ⟨a, cap, rfl, h1, h2, h3, pf, mf, fun i hi => ⟨(h4 i hi).1.weak hB, (h4 i hi).2.weak hB⟩, fun hl => ?_⟩
  obtain ⟨b, off, rfl, hA, hb, hcell⟩ := h5 hl
  exact ⟨b, off, rfl, fun e => hA (hB b e hb), hb, hcell⟩
theorem RPS.shape {A : Nat → Prop} {w : World} {v : Value} {ls : List Pl} (h : RPS A w v ls) : ∃ a n c, v = .slice a n c := by
  obtain ⟨a, cap, rfl, _⟩ := h; exact ⟨_, _, _, rfl⟩
theorem Box3.at {w : World} {b n : Nat} {v0 v1 v2 : Value} (h : Box3 w b v0 v1 v2) (e : b = n) : Box3 w n v0 v1 v2 := e ▸ h
theorem Box3.far {w : World} {b : Nat} {v0 v1 v2 : Value} (h : Box3 w b v0 v1 v2) (p : Addr) (x : Value) (hp : p.block ≠ b) : Box3 (w.setCell p x) b v0 v1 v2 :=
  h.step (S := fun k => k = p.block) ((Chg.refl (fun k => k = p.block) w).setCell (p := p) (fun _ => rfl) x) (fun e => hp e.symm)
theorem Box3.set0 {w : World} {b : Nat} {v0 v1 v2 : Value} (h : Box3 w b v0 v1 v2) (x : Value) : Box3 (w.setCell ⟨b, 0, none⟩ x) b x v1 v2 :=
  ⟨World.cell?_setCell_same _ _ _ h.c0, (World.cell?_setCell_other _ _ _ _ (by simp)).trans h.c1, (World.cell?_setCell_other _ _ _ _ (by simp)).trans h.c2, fun o => (World.frozen?_setCell _ _ _ _).trans (h.fr o)⟩
theorem Box3.set1 {w : World} {b : Nat} {v0 v1 v2 : Value} (h : Box3 w b v0 v1 v2) (x : Value) : Box3 (w.setCell ⟨b, 1, none⟩ x) b v0 x v2 :=
  ⟨(World.cell?_setCell_other _ _ _ _ (by simp)).trans h.c0, World.cell?_setCell_same _ _ _ h.c1, (World.cell?_setCell_other _ _ _ _ (by simp)).trans h.c2, fun o => (World.frozen?_setCell _ _ _ _).trans (h.fr o)⟩
theorem Box3.set2 {w : World} {b : Nat} {v0 v1 v2 : Value} (h : Box3 w b v0 v1 v2) (x : Value) : Box3 (w.setCell ⟨b, 2, none⟩ x) b v0 v1 x :=
  ⟨(World.cell?_setCell_other _ _ _ _ (by simp)).trans h.c0, (World.cell?_setCell_other _ _ _ _ (by simp)).trans h.c1, World.cell?_setCell_same _ _ _ h.c2, fun o => (World.frozen?_setCell _ _ _ _).trans (h.fr o)⟩
theorem boxes33 {w : World} {t t' t'' : TypeId} {x0 x1 x2 y0 y1 y2 z0 z1 z2 : Value} {R : World → Prop} (h : ∀ W, Chg No w W → Box3 W w.heap.size x0 x1 x2 → Box3 W (w.heap.size + 1) y0 y1 y2 → Box3 W (w.heap.size + 1 + 1) z0 z1 z2 → R W) :
    R (((w.alloc (.cells #[x0, x1, x2] t)).alloc (.cells #[y0, y1, y2] t')).alloc (.cells #[z0, z1, z2] t'')) :=
  h _ ((((Chg.refl No w).alloc _).alloc _).alloc _) ((Box3.new w _ _ _ t).keep (((Chg.refl No _).alloc _).alloc _))
    (((Box3.new (w.alloc (.cells #[x0, x1, x2] t)) _ _ _ t').keep ((Chg.refl No _).alloc _)).at (by simp)) ((Box3.new ((w.alloc (.cells #[x0, x1, x2] t)).alloc (.cells #[y0, y1, y2] t')) _ _ _ t'').at (by simp))
theorem boxes32 {w : World} {t t' : TypeId} {x0 x1 x2 y0 y1 y2 : Value} {R : World → Prop} (h : ∀ W, Chg No w W → Box3 W w.heap.size x0 x1 x2 → Box3 W (w.heap.size + 1) y0 y1 y2 → R W) :
    R ((w.alloc (.cells #[x0, x1, x2] t)).alloc (.cells #[y0, y1, y2] t')) :=
  h _ (((Chg.refl No w).alloc _).alloc _) ((Box3.new w _ _ _ t).keep ((Chg.refl No _).alloc _)) ((Box3.new (w.alloc (.cells #[x0, x1, x2] t)) _ _ _ t').at (by simp))

set_option maxRecDepth 100000 in
set_option maxHeartbeats 1000000 in
theorem toTournament_fresh (v : Value) (t : To) (w : World) (h : RT No w v t) :
    Calls Tryz.prog 9 #[v] w (Ret fun r w' => RT (fun q => q < w.heap.size) w' r t ∧ Chg No w w') := by
  obtain ⟨it, ps, rq⟩ := t
  obtain ⟨pv, rv, rfl, hps, hrq⟩ := h
  simp only at hps hrq ⊢
  obtain ⟨ra, rn, rc, rfl⟩ := hrq.shape
  obtain ⟨pa, pn, pc, rfl⟩ := hps.shape
  go_enter Tryz.func9, Tryz.ntmps9
  go_wp2_with fail
  refine boxes33 (R := fun W => Calls _ _ _ W _) (fun W hW b0 b1 b2 => ?_)
  have hsz := hW.size
  have hl2 := b2.lt
  refine (toPlayerS_any _ ps W (hps.keep hW)).mono ?_
  rintro e w1 ⟨v1, rfl, o1, k1⟩
  obtain ⟨ya, yn, yc, rfl⟩ := o1.shape
  have b0 := b0.keep k1
  have b1 := b1.keep k1
  have b2 := b2.keep k1
  have hW1 := hW.keep k1
  have g1 := b2.c1
  have g1f := b2.fr 1
  obtain ⟨c0, c1, c2, _⟩ := b0.far ⟨w.heap.size + 1 + 1, 1, none⟩ (.slice ya yn yc) (by simp <;> omega)
  go_wp2_with fail
  have b1 := b1.far ⟨w.heap.size + 1 + 1, 1, none⟩ (.slice ya yn yc) (by simp <;> omega)
  have b2 := b2.set1 (.slice ya yn yc)
  have o1 := o1.step (T := fun q => q = w.heap.size + 1 + 1) ((Chg.refl (fun q => q = w.heap.size + 1 + 1) w1).setCell (p := ⟨w.heap.size + 1 + 1, 1, none⟩) (fun _ => rfl) (.slice ya yn yc)) (fun k hk => by omega)
  have hW1 := hW1.setCell (p := ⟨w.heap.size + 1 + 1, 1, none⟩) (fun h => by simp at h; omega) (.slice ya yn yc)
  clear c0 c1 c2 g1 g1f
  have hsW1 : W.heap.size ≤ (w1.setCell ⟨w.heap.size + 1 + 1, 1, none⟩ (.slice ya yn yc)).heap.size := by have := k1.size; simpa [World.setCell] using this
  generalize w1.setCell ⟨w.heap.size + 1 + 1, 1, none⟩ (.slice ya yn yc) = W1 at *
  refine (toIntS_any No _ _ W1 (hrq.keep hW1)).mono ?_
  rintro e w2 ⟨v2, rfl, o2, k2⟩
  obtain ⟨za, zn, zc, rfl⟩ := o2.shape
  have b1 := b1.keep k2
  have b2 := b2.keep k2
  have o1 := o1.keep k2
  have hW2 := hW1.keep k2
  have hs1 := hW1.size
  have hs2 := hW2.size
  have hl3 := b1.lt
  have g2 := b2.c2
  have g2f := b2.fr 2
  obtain ⟨r0, r1, r2, _⟩ := b2.set2 (.slice za zn zc)
  have B1 := b1.far ⟨w.heap.size + 1 + 1, 2, none⟩ (.slice za zn zc) (by simp <;> omega)
  obtain ⟨s0, s1, s2, sf⟩ := id B1
  have sf0 := sf 0
  have sf1 := sf 1
  have sf2 := sf 2
  clear sf
  obtain ⟨z0, z1, z2, _⟩ := ((B1.set0 (.int .i64 it)).set1 (.slice ya yn yc)).set2 (.slice za zn zc)
  have ch : Chg (fun q => q = w.heap.size + 1 ∨ q = w.heap.size + 1 + 1) w2 ((((w2.setCell ⟨w.heap.size + 1 + 1, 2, none⟩ (.slice za zn zc)).setCell ⟨w.heap.size + 1, 0, none⟩ (.int .i64 it)).setCell ⟨w.heap.size + 1, 1, none⟩ (.slice ya yn yc)).setCell ⟨w.heap.size + 1, 2, none⟩ (.slice za zn zc)) :=
    ((((Chg.refl (fun q => q = w.heap.size + 1 ∨ q = w.heap.size + 1 + 1) w2).setCell (p := ⟨w.heap.size + 1 + 1, 2, none⟩) (fun _ => .inr rfl) _).setCell (p := ⟨w.heap.size + 1, 0, none⟩) (fun _ => .inl rfl) _).setCell (p := ⟨w.heap.size + 1, 1, none⟩) (fun _ => .inl rfl) _).setCell (p := ⟨w.heap.size + 1, 2, none⟩) (fun _ => .inl rfl) _
  have f1 := (o1.step ch (fun k hk => by rcases hk with h | h <;> omega)).weak (B := fun q => q < w.heap.size) (fun q hq _ => Nat.lt_of_lt_of_le hq hsz)
  have f2 := (o2.step ch (fun q hq e => by have := (o2.lt q hq).1; rcases e with h | h <;> omega)).read (A := fun q => q < w.heap.size) (fun q hq hA => by have := (o2.lt q hq).1; omega)
  have hk := hW2.step ch (fun q hq hl => by rcases hq with h | h <;> omega)
  clear ch b0 b1 b2 B1
  go_wp2_with fail
  refine bodyPost_ret (v := .agg #[.int .i64 it, .slice ya yn yc, .slice za zn zc]) (by simp [results, Tryz.results9, go_sem, z0, z1, z2]) rfl ?_
  exact ⟨_, rfl, ⟨_, _, rfl, f1, f2⟩, hk⟩
theorem toTournament_any (v : Value) (t : To) (w : World) (h : RT No w v t) :
    Calls Tryz.prog 9 #[v] w (Ret fun r w' => RT No w' r t ∧ Chg No w w') :=
  (toTournament_fresh v t w h).mono fun _e _w' ⟨v', h1, ⟨pv, rv, h2, h3, h4⟩, h5⟩ => ⟨v', h1, ⟨pv, rv, h2, h3.weakNo, h4.weak (fun _ e _ => e.elim)⟩, h5⟩

set_option maxRecDepth 100000 in
set_option maxHeartbeats 2000000 in
theorem eqPlayerS_same (v v' : Value) (ls : List Pl) (w : World) (h : RPS No w v ls) (h' : RPS No w v' ls) :
    Calls Tryz.prog 49 #[v, v'] w (Ret fun r w' => r = .bool true ∧ Chg No w w') := by
  obtain ⟨a, cap, rfl, hcap, hmax, hlen, pf, mf, hl, hcl⟩ := id h
  obtain ⟨a', cap', rfl, hcap', hmax', _, pf', mf', hl', hcl'⟩ := id h'
  have HL := Lib.hid hl
  have HC := Lib.hid hcl
  have HL' := Lib.hid hl'
  have HC' := Lib.hid hcl'
  clear hl hcl hl' hcl'
  go_enter Tryz.func49, Tryz.ntmps49
  go_wp2_with fail
  go_loopw [5] (fun i wr => ∃ j : Nat, j ≤ ls.length ∧ i = .int .i64 j ∧ Chg No w wr) (fun i _ => ls.length - (intOf i).toNat)
  case atStart => exact ⟨0, Nat.zero_le _, rfl, Chg.refl No w⟩
  case round =>
    obtain ⟨j, hj, rfl, hch⟩ := hrel
    by_cases hlt : j < ls.length
    · obtain ⟨b, off, rfl, _, hb, hcell⟩ := HC.out (by intro e; simp [e] at hlt)
      obtain ⟨b', off', rfl, _, hb', hcell'⟩ := HC'.out (by intro e; simp [e] at hlt)
      have h7 := hcell j hlt
      have h7' := hcell' j hlt
      obtain ⟨hpj, hmj⟩ := HL.out j hlt
      obtain ⟨hpj', hmj'⟩ := HL'.out j hlt
      obtain ⟨y, hy⟩ : ∃ y, ls.getD j dPl = y := ⟨_, rfl⟩
      rw [hy] at h7 hpj hmj h7' hpj' hmj'
      clear hcell hcell' hy
      have hj0 : (0 : Int) ≤ (j : Int) := Int.natCast_nonneg _
      have hj1 : (j : Int) < (ls.length : Int) := by omega
      have hw1 : IntKind.i64.wrap ((j : Int) + 1) = (j : Int) + 1 := IntWalk.i64_in _ (by omega)
      generalize pf j = pj at hpj h7
      generalize mf j = mj at hmj h7
      generalize pf' j = pj' at hpj' h7'
      generalize mf' j = mj' at hmj' h7'
      obtain ⟨ya, yn, yc, rfl⟩ := hpj.shape
      obtain ⟨za, zn, zc, rfl⟩ := hmj.shape
      obtain ⟨ya', yn', yc', rfl⟩ := hpj'.shape
      obtain ⟨za', zn', zc', rfl⟩ := hmj'.shape
      obtain ⟨C, hC1, hC2⟩ : ∃ C : World → Prop, (∀ W, C W → Chg No w W) ∧ (∀ W, Chg No w W → C W) := ⟨_, fun _ h => h, fun _ h => h⟩
      have HCELL : Hid (∀ W, C W → W.cell? ⟨b, off + j * 7, none⟩ = some (.int .i64 y.frm) ∧ W.cell? ⟨b, off + j * 7 + 1, none⟩ = some (.int .i64 y.ca.pol) ∧ W.cell? ⟨b, off + j * 7 + 2, none⟩ = some (.int .i64 y.ca.size) ∧ W.cell? ⟨b, off + j * 7 + 3, none⟩ = some (.slice ya yn yc) ∧
          W.cell? ⟨b, off + j * 7 + 4, none⟩ = some (.slice za zn zc) ∧ W.cell? ⟨b, off + j * 7 + 5, none⟩ = some (.int .i64 y.ca.hand) ∧ W.cell? ⟨b, off + j * 7 + 6, none⟩ = some (.int .i64 y.fa) ∧
          W.cell? ⟨b', off' + j * 7, none⟩ = some (.int .i64 y.frm) ∧ W.cell? ⟨b', off' + j * 7 + 1, none⟩ = some (.int .i64 y.ca.pol) ∧ W.cell? ⟨b', off' + j * 7 + 2, none⟩ = some (.int .i64 y.ca.size) ∧ W.cell? ⟨b', off' + j * 7 + 3, none⟩ = some (.slice ya' yn' yc') ∧
          W.cell? ⟨b', off' + j * 7 + 4, none⟩ = some (.slice za' zn' zc') ∧ W.cell? ⟨b', off' + j * 7 + 5, none⟩ = some (.int .i64 y.ca.hand) ∧ W.cell? ⟨b', off' + j * 7 + 6, none⟩ = some (.int .i64 y.fa) ∧ True) := Lib.hid (fun W hW => by
        have g2 := hC1 W hW
        have g3 := h7.step g2 hb (fun e => e)
        have g4 := h7'.step g2 hb' (fun e => e)
        exact ⟨g3.c0, g3.c1, g3.c2, g3.c3, g3.c4, g3.c5, g3.c6, g4.c0, g4.c1, g4.c2, g4.c3, g4.c4, g4.c5, g4.c6, trivial⟩)
      have HX := Lib.hid hC1
      have HI := Lib.hid hC2
      have hC0 := hC2 _ hch.drew
      clear hC1 hC2 h7 h7'
      go_wp2_with fail
      refine wp_region_X C (by kernel_rfl) (by kernel_rfl) hC0 ?_
      clear hC0
      refine wpX_val (.slice (some ⟨b, off, none⟩) ls.length cap) rfl (by intro W hW; obtain ⟨d0, d1, d2, d3, d4, d5, d6, e0, e1, e2, e3, e4, e5, e6, _⟩ := HCELL.out W hW; go_simp) ?_
      simp only [Act.put, List.setIfInBounds_toArray, List.set_cons_zero, List.set_cons_succ]
      refine wpX_val (.int .i64 j) rfl (by intro W hW; obtain ⟨d0, d1, d2, d3, d4, d5, d6, e0, e1, e2, e3, e4, e5, e6, _⟩ := HCELL.out W hW; go_simp) ?_
      simp only [Act.put, List.setIfInBounds_toArray, List.set_cons_zero, List.set_cons_succ]
      refine wpX_val (.pointer (some ⟨b, off + j * 7, none⟩)) rfl (by intro W hW; obtain ⟨d0, d1, d2, d3, d4, d5, d6, e0, e1, e2, e3, e4, e5, e6, _⟩ := HCELL.out W hW; go_simp) ?_
      simp only [Act.put, List.setIfInBounds_toArray, List.set_cons_zero, List.set_cons_succ]
      refine wpX_val (.agg #[.int .i64 y.frm, .int .i64 y.ca.pol, .int .i64 y.ca.size, .slice ya yn yc, .slice za zn zc, .int .i64 y.ca.hand, .int .i64 y.fa]) rfl (by intro W hW; obtain ⟨d0, d1, d2, d3, d4, d5, d6, e0, e1, e2, e3, e4, e5, e6, _⟩ := HCELL.out W hW; go_simp) ?_
      simp only [Act.put, List.setIfInBounds_toArray, List.set_cons_zero, List.set_cons_succ]
      refine wpX_val (.slice (some ⟨b', off', none⟩) ls.length cap') rfl (by intro W hW; obtain ⟨d0, d1, d2, d3, d4, d5, d6, e0, e1, e2, e3, e4, e5, e6, _⟩ := HCELL.out W hW; go_simp) ?_
      simp only [Act.put, List.setIfInBounds_toArray, List.set_cons_zero, List.set_cons_succ]
      refine wpX_val (.int .i64 j) rfl (by intro W hW; obtain ⟨d0, d1, d2, d3, d4, d5, d6, e0, e1, e2, e3, e4, e5, e6, _⟩ := HCELL.out W hW; go_simp) ?_
      simp only [Act.put, List.setIfInBounds_toArray, List.set_cons_zero, List.set_cons_succ]
      refine wpX_val (.pointer (some ⟨b', off' + j * 7, none⟩)) rfl (by intro W hW; obtain ⟨d0, d1, d2, d3, d4, d5, d6, e0, e1, e2, e3, e4, e5, e6, _⟩ := HCELL.out W hW; go_simp) ?_
      simp only [Act.put, List.setIfInBounds_toArray, List.set_cons_zero, List.set_cons_succ]
      refine wpX_val (.agg #[.int .i64 y.frm, .int .i64 y.ca.pol, .int .i64 y.ca.size, .slice ya' yn' yc', .slice za' zn' zc', .int .i64 y.ca.hand, .int .i64 y.fa]) rfl (by intro W hW; obtain ⟨d0, d1, d2, d3, d4, d5, d6, e0, e1, e2, e3, e4, e5, e6, _⟩ := HCELL.out W hW; go_simp) ?_
      simp only [Act.put, List.setIfInBounds_toArray, List.set_cons_zero, List.set_cons_succ]
      refine wpX_call (.bool true) (f := 102) (args := #[.agg #[.int .i64 y.frm, .int .i64 y.ca.pol, .int .i64 y.ca.size, .slice ya yn yc, .slice za zn zc, .int .i64 y.ca.hand, .int .i64 y.fa], .agg #[.int .i64 y.frm, .int .i64 y.ca.pol, .int .i64 y.ca.size, .slice ya' yn' yc', .slice za' zn' zc', .int .i64 y.ca.hand, .int .i64 y.fa]]) rfl (by intro W hW; go_simp)
        (fun W hW => (eqPlayer_same No No _ _ y W ⟨_, _, rfl, hpj.keep (HX.out W hW), hmj.keep (HX.out W hW)⟩ ⟨_, _, rfl, hpj'.keep (HX.out W hW), hmj'.keep (HX.out W hW)⟩).mono (by rintro e w' ⟨_, rfl, rfl, hk⟩; exact ⟨rfl, HI.out _ ((HX.out W hW).keep hk)⟩)) ?_
      simp only [Act.put, List.setIfInBounds_toArray, List.set_cons_zero, List.set_cons_succ]
      refine wpX_val (.bool false) rfl (by intro W hW; obtain ⟨d0, d1, d2, d3, d4, d5, d6, e0, e1, e2, e3, e4, e5, e6, _⟩ := HCELL.out W hW; go_simp) ?_
      simp only [Act.put, List.setIfInBounds_toArray, List.set_cons_zero, List.set_cons_succ]
      refine wpX_nil (fun W hW => ?_)
      have g2 := HX.out W hW
      go_wp2_with fail
      go_round
      case rel => exact ⟨j + 1, by omega, by go_num, g2⟩
      case measure => simp [intOf]; omega
    · have hjl : j = ls.length := by omega
      subst hjl
      go_wp2_with fail
      go_ret
      exact ⟨_, rfl, rfl, hch⟩

set_option maxRecDepth 100000 in
set_option maxHeartbeats 1000000 in
theorem eqTournament_same (v v' : Value) (t : To) (w : World) (h : RT No w v t) (h' : RT No w v' t) :
    Calls Tryz.prog 12 #[v, v'] w (Ret fun r w' => r = .bool true ∧ Chg No w w') := by
  obtain ⟨it, ps, rq⟩ := t
  obtain ⟨pv, rv, rfl, hps, hrq⟩ := h
  obtain ⟨pv', rv', rfl, hps', hrq'⟩ := h'
  simp only at hps hrq hps' hrq' ⊢
  obtain ⟨ra, rn, rc, rfl⟩ := hrq.shape
  obtain ⟨pa, pn, pc, rfl⟩ := hps.shape
  obtain ⟨ra', rn', rc', rfl⟩ := hrq'.shape
  obtain ⟨pa', pn', pc', rfl⟩ := hps'.shape
  go_enter Tryz.func12, Tryz.ntmps12
  go_wp2_with fail
  refine boxes32 (R := fun W => Calls _ _ _ W _) (fun W hW b0 b1 => ?_)
  refine (eqPlayerS_same _ _ ps W (hps.keep hW) (hps'.keep hW)).mono ?_
  rintro e w1 ⟨_, rfl, rfl, k1⟩
  have hW := hW.keep k1
  obtain ⟨c0, c1, c2, _⟩ := b0.keep k1
  obtain ⟨d0, d1, d2, _⟩ := b1.keep k1
  go_wp2_with fail
  refine (eqIntS_same No No _ _ rq w1 (hrq.keep hW) (hrq'.keep hW)).mono ?_
  rintro e w2 ⟨_, rfl, rfl, k2⟩
  go_wp2_with fail
  go_ret
  exact ⟨_, rfl, rfl, hW.keep k2⟩
end Go.Proofs.YtodnkkmjjlfoiaaGreat

/- Players in a row of the call's own: copied, marked, looked at -/
namespace Go.Proofs.YtodnkkmjjlfoiaaGreat
open Go.RowKit

/-- Players in a row at block g, each list in a block of its own -/
structure PO (base g n : Nat) (ls : List Pl) (pf mf : Nat → Value) (w : World) : Prop where
  len : ls.length = n
  lt : g < w.heap.size
  low : base ≤ g
  fr : ∀ o, w.frozen? ⟨g, o, none⟩ = false
  cell : ∀ i, i < n → Cell7 w g (i * 7) (ls.getD i dPl) (pf i) (mf i)
  pg : ∀ i, i < n → OI base w (pf i) (ls.getD i dPl).ca.pages
  mq : ∀ i, i < n → OI base w (mf i) (ls.getD i dPl).ca.marks
  far : ∀ i, i < n → ∀ q, (own (pf i) q ∨ own (mf i) q) → q ≠ g
  apart : ∀ i, i < n → ∀ q, own (pf i) q → ¬ own (mf i) q
  dis : ∀ i j, i < n → j < n → i ≠ j → ∀ q, (own (pf i) q ∨ own (mf i) q) → ¬ (own (pf j) q ∨ own (mf j) q)
/-- its blocks -/
def FP (g n : Nat) (pf mf : Nat → Value) : Nat → Prop := fun q => q = g ∨ ∃ i, i < n ∧ (own (pf i) q ∨ own (mf i) q)
theorem PO.inF {base g n : Nat} {ls : List Pl} {pf mf : Nat → Value} {w : World} (h : PO base g n ls pf mf w) (q : Nat) (hq : FP g n pf mf q) : base ≤ q ∧ q < w.heap.size := by
  rcases hq with rfl | ⟨i, hi, hq | hq⟩
  · exact ⟨h.low, h.lt⟩
  · exact (h.pg i hi).lt q hq
  · exact (h.mq i hi).lt q hq
theorem PO.step {base g n : Nat} {ls : List Pl} {pf mf : Nat → Value} {w w' : World} {S : Nat → Prop} (h : PO base g n ls pf mf w) (hc : Chg S w w') (hS : ∀ q, FP g n pf mf q → ¬ S q) : PO base g n ls pf mf w' :=
  ⟨h.len, Nat.lt_of_lt_of_le h.lt hc.size, h.low, fun o => (hc.frozenD g o h.lt (hS g (.inl rfl))).trans (h.fr o), fun i hi => (h.cell i hi).step hc h.lt (hS g (.inl rfl)),
   fun i hi => (h.pg i hi).step hc (fun q hq => hS q (.inr ⟨i, hi, .inl hq⟩)), fun i hi => (h.mq i hi).step hc (fun q hq => hS q (.inr ⟨i, hi, .inr hq⟩)), h.far, h.apart, h.dis⟩
theorem PO.keep {base g n : Nat} {ls : List Pl} {pf mf : Nat → Value} {w w' : World} (h : PO base g n ls pf mf w) (hc : Chg No w w') : PO base g n ls pf mf w' := h.step hc (fun _ _ e => e)
theorem PO.read {base g n cap : Nat} {ls : List Pl} {pf mf : Nat → Value} {w : World} (h : PO base g n ls pf mf w) (hc : n ≤ cap) (hcap : cap ≤ 9223372036854775807) (hn : n ≤ 1048576) {A : Nat → Prop} (hA : ∀ q, FP g n pf mf q → ¬ A q) : RPS A w (.slice (some ⟨g, 0, none⟩) n cap) ls := by
  have e := h.len
  subst e
  refine ⟨_, cap, rfl, hc, hcap, hn, pf, mf, fun i hi => ⟨(h.pg i hi).read (fun q hq => hA q (.inr ⟨i, hi, .inl hq⟩)), (h.mq i hi).read (fun q hq => hA q (.inr ⟨i, hi, .inr hq⟩))⟩, fun _ => ⟨g, 0, rfl, hA g (.inl rfl), h.lt, fun i hi => ?_⟩⟩
  rw [Nat.zero_add]; exact h.cell i hi
theorem getD_setP (ls : List Pl) (j : Nat) (x : Pl) (hj : j < ls.length) (i : Nat) : (ls.set j x).getD i dPl = if i = j then x else ls.getD i dPl := by
  by_cases e : i = j
  · subst e; rw [if_pos rfl]; simp [List.getD_eq_getElem?_getD, hj]
  · rw [if_neg e]; simp [List.getD_eq_getElem?_getD, Ne.symm e]
/-- cells of one Player written -/
theorem PO.upd {base g n : Nat} {ls : List Pl} {pf mf : Nat → Value} {w w' : World} (h : PO base g n ls pf mf w) {j : Nat} (hj : j < n) (x' : Pl) (hp : x'.ca.pages = (ls.getD j dPl).ca.pages) (hm : x'.ca.marks = (ls.getD j dPl).ca.marks)
    (hc : Chg (fun q => q = g) w w') (hf : ∀ o, w'.frozen? ⟨g, o, none⟩ = false) (hoth : ∀ o, (o < j * 7 ∨ j * 7 + 7 ≤ o) → w'.cell? ⟨g, o, none⟩ = w.cell? ⟨g, o, none⟩) (h7 : Cell7 w' g (j * 7) x' (pf j) (mf j)) :
    PO base g n (ls.set j x') pf mf w' := by
  have hl := h.len
  refine ⟨by rw [List.length_set]; exact hl, Nat.lt_of_lt_of_le h.lt hc.size, h.low, hf, fun i hi => ?_, fun i hi => ?_, fun i hi => ?_, h.far, h.apart, h.dis⟩
  · rw [getD_setP ls j x' (by omega)]
    by_cases e : i = j
    · subst e; rw [if_pos rfl]; exact h7
    · rw [if_neg e]
      obtain ⟨c0, c1, c2, c3, c4, c5, c6⟩ := h.cell i hi
      have ho : ∀ r, r < 7 → w'.cell? ⟨g, i * 7 + r, none⟩ = w.cell? ⟨g, i * 7 + r, none⟩ := fun r hr => hoth _ (by omega)
      exact ⟨(ho 0 (by omega)).trans c0, (ho 1 (by omega)).trans c1, (ho 2 (by omega)).trans c2, (ho 3 (by omega)).trans c3, (ho 4 (by omega)).trans c4, (ho 5 (by omega)).trans c5, (ho 6 (by omega)).trans c6⟩
  · have e2 : ((ls.set j x').getD i dPl).ca.pages = (ls.getD i dPl).ca.pages := by
      rw [getD_setP ls j x' (by omega)]
      by_cases e : i = j
      · subst e; rw [if_pos rfl]; exact hp
      · rw [if_neg e]
    rw [e2]
    exact (h.pg i hi).step hc (fun q hq e => h.far i hi q (.inl hq) e)
  · have e2 : ((ls.set j x').getD i dPl).ca.marks = (ls.getD i dPl).ca.marks := by
      rw [getD_setP ls j x' (by omega)]
      by_cases e : i = j
      · subst e; rw [if_pos rfl]; exact hm
      · rw [if_neg e]
    rw [e2]
    exact (h.mq i hi).step hc (fun q hq e => h.far i hi q (.inr hq) e)
/-- the pages of one Player written -/
theorem PO.updP {base g n : Nat} {ls : List Pl} {pf mf : Nat → Value} {w w' : World} (h : PO base g n ls pf mf w) {j : Nat} (hj : j < n) {l' : List Int} (ho : OI base w' (pf j) l') (hc : Chg (own (pf j)) w w') :
    PO base g n (ls.set j { (ls.getD j dPl) with ca := { (ls.getD j dPl).ca with pages := l' } }) pf mf w' := by
  have hl := h.len
  have hng : ¬ own (pf j) g := fun e => h.far j hj g (.inl e) rfl
  refine ⟨by rw [List.length_set]; exact hl, Nat.lt_of_lt_of_le h.lt hc.size, h.low, fun o => (hc.frozenD g o h.lt hng).trans (h.fr o), fun i hi => ?_, fun i hi => ?_, fun i hi => ?_, h.far, h.apart, h.dis⟩
  · have h7 := (h.cell i hi).step hc h.lt hng
    rw [getD_setP ls j _ (by omega)]
    by_cases e : i = j
    · subst e; rw [if_pos rfl]; exact ⟨h7.c0, h7.c1, h7.c2, h7.c3, h7.c4, h7.c5, h7.c6⟩
    · rw [if_neg e]; exact h7
  · rw [getD_setP ls j _ (by omega)]
    by_cases e : i = j
    · subst e; rw [if_pos rfl]; exact ho
    · rw [if_neg e]; exact (h.pg i hi).step hc (fun q hq e2 => h.dis i j hi hj e q (.inl hq) (.inl e2))
  · have e2 : ((ls.set j { (ls.getD j dPl) with ca := { (ls.getD j dPl).ca with pages := l' } }).getD i dPl).ca.marks = (ls.getD i dPl).ca.marks := by
      rw [getD_setP ls j _ (by omega)]
      by_cases e : i = j
      · subst e; rw [if_pos rfl]
      · rw [if_neg e]
    rw [e2]
    by_cases e : i = j
    · subst e; exact (h.mq i hi).step hc (fun q hq e2 => h.apart i hi q e2 hq)
    · exact (h.mq i hi).step hc (fun q hq e2 => h.dis i j hi hj e q (.inr hq) (.inl e2))
/-- the marks of one Player written -/
theorem PO.updM {base g n : Nat} {ls : List Pl} {pf mf : Nat → Value} {w w' : World} (h : PO base g n ls pf mf w) {j : Nat} (hj : j < n) {l' : List Int} (ho : OI base w' (mf j) l') (hc : Chg (own (mf j)) w w') :
    PO base g n (ls.set j { (ls.getD j dPl) with ca := { (ls.getD j dPl).ca with marks := l' } }) pf mf w' := by
  have hl := h.len
  have hng : ¬ own (mf j) g := fun e => h.far j hj g (.inr e) rfl
  refine ⟨by rw [List.length_set]; exact hl, Nat.lt_of_lt_of_le h.lt hc.size, h.low, fun o => (hc.frozenD g o h.lt hng).trans (h.fr o), fun i hi => ?_, fun i hi => ?_, fun i hi => ?_, h.far, h.apart, h.dis⟩
  · have h7 := (h.cell i hi).step hc h.lt hng
    rw [getD_setP ls j _ (by omega)]
    by_cases e : i = j
    · subst e; rw [if_pos rfl]; exact ⟨h7.c0, h7.c1, h7.c2, h7.c3, h7.c4, h7.c5, h7.c6⟩
    · rw [if_neg e]; exact h7
  · have e2 : ((ls.set j { (ls.getD j dPl) with ca := { (ls.getD j dPl).ca with marks := l' } }).getD i dPl).ca.pages = (ls.getD i dPl).ca.pages := by
      rw [getD_setP ls j _ (by omega)]
      by_cases e : i = j
      · subst e; rw [if_pos rfl]
      · rw [if_neg e]
    rw [e2]
    by_cases e : i = j
    · subst e; exact (h.pg i hi).step hc (fun q hq e2 => h.apart i hi q hq e2)
    · exact (h.pg i hi).step hc (fun q hq e2 => h.dis i j hi hj e q (.inl hq) (.inr e2))
  · rw [getD_setP ls j _ (by omega)]
    by_cases e : i = j
    · subst e; rw [if_pos rfl]; exact ho
    · rw [if_neg e]; exact (h.mq i hi).step hc (fun q hq e2 => h.dis i j hi hj e q (.inr hq) (.inr e2))

/-- a Player marked from k on, and where the marks go on -/
def mkPl (k : Int) (x : Pl) : Pl :=
  ⟨k, { pol := k + 1, size := k + 2, pages := marks (k + 3) x.ca.pages.length, marks := marks (k + 3 + x.ca.pages.length) x.ca.marks.length, hand := k + 3 + x.ca.pages.length + x.ca.marks.length }, k + 3 + x.ca.pages.length + x.ca.marks.length + 1⟩
def szPl (x : Pl) : Nat := 5 + x.ca.pages.length + x.ca.marks.length
def totPl : List Pl → Nat
  | [] => 0
  | x :: ls => szPl x + totPl ls
/-- the first j Players marked -/
def mkTo (k : Int) (ls : List Pl) : Nat → List Pl
  | 0 => ls
  | j + 1 => (mkTo k ls j).set j (mkPl (k + totPl (ls.take j)) (ls.getD j dPl))
theorem totPl_snoc (ls : List Pl) (j : Nat) (hj : j < ls.length) : totPl (ls.take (j + 1)) = totPl (ls.take j) + szPl (ls.getD j dPl) := by
  have : ∀ (a : List Pl) (x : Pl), totPl (a ++ [x]) = totPl a + szPl x := fun a x => by
    induction a with
    | nil => simp [totPl]
    | cons y a ih => simp only [List.cons_append, totPl, ih]; omega
  rw [List.take_succ_eq_append_getElem hj, this, List.getD_eq_getElem?_getD, List.getElem?_eq_getElem hj]; rfl
theorem totPl_le (ls : List Pl) (j : Nat) : totPl (ls.take j) ≤ totPl ls := by
  induction ls generalizing j with
  | nil => simp [totPl]
  | cons x ls ih =>
    cases j with
    | zero => simp [totPl]
    | succ j => simp only [List.take_succ_cons, totPl]; have := ih j; omega
theorem mkTo_len (k : Int) (ls : List Pl) (j : Nat) : (mkTo k ls j).length = ls.length := by
  induction j with
  | zero => rfl
  | succ j ih => unfold mkTo; rw [List.length_set, ih]
theorem mkTo_above (k : Int) (ls : List Pl) (j : Nat) (hjl : j ≤ ls.length) : ∀ i, j ≤ i → (mkTo k ls j).getD i dPl = ls.getD i dPl := by
  induction j with
  | zero => intro i _; rfl
  | succ j ih =>
    intro i hi
    unfold mkTo
    rw [getD_setP _ _ _ (by rw [mkTo_len]; omega), if_neg (by omega)]
    exact ih (by omega) i (by omega)
theorem mkTo_below (k : Int) (ls : List Pl) (j : Nat) (hjl : j ≤ ls.length) : ∀ i, i < j → (mkTo k ls j).getD i dPl = mkPl (k + totPl (ls.take i)) (ls.getD i dPl) := by
  induction j with
  | zero => intro i hi; omega
  | succ j ih =>
    intro i hi
    unfold mkTo
    rw [getD_setP _ _ _ (by rw [mkTo_len]; omega)]
    by_cases e : i = j
    · subst e; rw [if_pos rfl]
    · rw [if_neg e]; exact ih (by omega) i (by omega)
theorem Cell7.s0 {w : World} {b o : Nat} {x : Pl} {pv mv : Value} (h : Cell7 w b o x pv mv) (v : Int) : Cell7 (w.setCell ⟨b, o, none⟩ (.int .i64 v)) b o { x with frm := v } pv mv :=
  ⟨World.cell?_setCell_same _ _ _ h.c0, (World.cell?_setCell_other _ _ _ _ (by simp)).trans h.c1, (World.cell?_setCell_other _ _ _ _ (by simp)).trans h.c2, (World.cell?_setCell_other _ _ _ _ (by simp)).trans h.c3, (World.cell?_setCell_other _ _ _ _ (by simp)).trans h.c4, (World.cell?_setCell_other _ _ _ _ (by simp)).trans h.c5, (World.cell?_setCell_other _ _ _ _ (by simp)).trans h.c6⟩
theorem Cell7.s1 {w : World} {b o : Nat} {x : Pl} {pv mv : Value} (h : Cell7 w b o x pv mv) (v : Int) : Cell7 (w.setCell ⟨b, o + 1, none⟩ (.int .i64 v)) b o { x with ca := { x.ca with pol := v } } pv mv :=
  ⟨(World.cell?_setCell_other _ _ _ _ (by simp)).trans h.c0, World.cell?_setCell_same _ _ _ h.c1, (World.cell?_setCell_other _ _ _ _ (by simp)).trans h.c2, (World.cell?_setCell_other _ _ _ _ (by simp)).trans h.c3, (World.cell?_setCell_other _ _ _ _ (by simp)).trans h.c4, (World.cell?_setCell_other _ _ _ _ (by simp)).trans h.c5, (World.cell?_setCell_other _ _ _ _ (by simp)).trans h.c6⟩
theorem Cell7.s2 {w : World} {b o : Nat} {x : Pl} {pv mv : Value} (h : Cell7 w b o x pv mv) (v : Int) : Cell7 (w.setCell ⟨b, o + 2, none⟩ (.int .i64 v)) b o { x with ca := { x.ca with size := v } } pv mv :=
  ⟨(World.cell?_setCell_other _ _ _ _ (by simp)).trans h.c0, (World.cell?_setCell_other _ _ _ _ (by simp)).trans h.c1, World.cell?_setCell_same _ _ _ h.c2, (World.cell?_setCell_other _ _ _ _ (by simp)).trans h.c3, (World.cell?_setCell_other _ _ _ _ (by simp)).trans h.c4, (World.cell?_setCell_other _ _ _ _ (by simp)).trans h.c5, (World.cell?_setCell_other _ _ _ _ (by simp)).trans h.c6⟩
theorem Cell7.s5 {w : World} {b o : Nat} {x : Pl} {pv mv : Value} (h : Cell7 w b o x pv mv) (v : Int) : Cell7 (w.setCell ⟨b, o + 5, none⟩ (.int .i64 v)) b o { x with ca := { x.ca with hand := v } } pv mv :=
  ⟨(World.cell?_setCell_other _ _ _ _ (by simp)).trans h.c0, (World.cell?_setCell_other _ _ _ _ (by simp)).trans h.c1, (World.cell?_setCell_other _ _ _ _ (by simp)).trans h.c2, (World.cell?_setCell_other _ _ _ _ (by simp)).trans h.c3, (World.cell?_setCell_other _ _ _ _ (by simp)).trans h.c4, World.cell?_setCell_same _ _ _ h.c5, (World.cell?_setCell_other _ _ _ _ (by simp)).trans h.c6⟩
theorem Cell7.s6 {w : World} {b o : Nat} {x : Pl} {pv mv : Value} (h : Cell7 w b o x pv mv) (v : Int) : Cell7 (w.setCell ⟨b, o + 6, none⟩ (.int .i64 v)) b o { x with fa := v } pv mv :=
  ⟨(World.cell?_setCell_other _ _ _ _ (by simp)).trans h.c0, (World.cell?_setCell_other _ _ _ _ (by simp)).trans h.c1, (World.cell?_setCell_other _ _ _ _ (by simp)).trans h.c2, (World.cell?_setCell_other _ _ _ _ (by simp)).trans h.c3, (World.cell?_setCell_other _ _ _ _ (by simp)).trans h.c4, (World.cell?_setCell_other _ _ _ _ (by simp)).trans h.c5, World.cell?_setCell_same _ _ _ h.c6⟩

/-- the first j Players of a row that is being filled -/
structure PJ (g j : Nat) (ls : List Pl) (pf mf : Nat → Value) (w : World) : Prop where
  cell : ∀ i, i < j → Cell7 w g (i * 7) (ls.getD i dPl) (pf i) (mf i)
  pg : ∀ i, i < j → OI (g + 1) w (pf i) (ls.getD i dPl).ca.pages
  mq : ∀ i, i < j → OI (g + 1) w (mf i) (ls.getD i dPl).ca.marks
  apart : ∀ i, i < j → ∀ q, own (pf i) q → ¬ own (mf i) q
  dis : ∀ i i', i < j → i' < j → i ≠ i' → ∀ q, (own (pf i) q ∨ own (mf i) q) → ¬ (own (pf i') q ∨ own (mf i') q)
theorem PJ.zero (g : Nat) (ls : List Pl) (pf mf : Nat → Value) (w : World) : PJ g 0 ls pf mf w := ⟨fun i h => by omega, fun i h => by omega, fun i h => by omega, fun i h => by omega, fun i i' h => by omega⟩
theorem PJ.next {g j : Nat} {ls : List Pl} {pf mf : Nat → Value} {w w1 w2 : World} (h : PJ g j ls pf mf w) (hg : g < w.heap.size) (k1 : Chg No w w1) (k2 : Chg (fun q => q = g) w1 w2) (hoth : ∀ o, (o < j * 7 ∨ j * 7 + 7 ≤ o) → w2.cell? ⟨g, o, none⟩ = w1.cell? ⟨g, o, none⟩)
    {pv mv : Value} (h7 : Cell7 w2 g (j * 7) (ls.getD j dPl) pv mv) (hp : OI w.heap.size w1 pv (ls.getD j dPl).ca.pages) (hm : OI w.heap.size w1 mv (ls.getD j dPl).ca.marks) (ha : ∀ q, own pv q → ¬ own mv q) :
    PJ g (j + 1) ls (fun i => if i = j then pv else pf i) (fun i => if i = j then mv else mf i) w2 := by
  have hnew : ∀ q, (own pv q ∨ own mv q) → w.heap.size ≤ q := fun q hq => hq.elim (fun h => (hp.lt q h).1) (fun h => (hm.lt q h).1)
  have hold : ∀ i, i < j → ∀ q, (own (pf i) q ∨ own (mf i) q) → g < q ∧ q < w.heap.size := fun i hi q hq => hq.elim (fun e => by have := (h.pg i hi).lt q e; omega) (fun e => by have := (h.mq i hi).lt q e; omega)
  refine ⟨fun i hi => ?_, fun i hi => ?_, fun i hi => ?_, fun i hi q hq => ?_, fun i i' hi hi' hne q hq => ?_⟩
  · by_cases e : i = j
    · subst e; simp only [if_true]; exact h7
    · simp only [if_neg e]
      obtain ⟨c0, c1, c2, c3, c4, c5, c6⟩ := (h.cell i (by omega)).step k1 hg (fun e => e)
      have ho : ∀ r, r < 7 → w2.cell? ⟨g, i * 7 + r, none⟩ = w1.cell? ⟨g, i * 7 + r, none⟩ := fun r hr => hoth _ (by omega)
      exact ⟨(ho 0 (by omega)).trans c0, (ho 1 (by omega)).trans c1, (ho 2 (by omega)).trans c2, (ho 3 (by omega)).trans c3, (ho 4 (by omega)).trans c4, (ho 5 (by omega)).trans c5, (ho 6 (by omega)).trans c6⟩
  · by_cases e : i = j
    · subst e; simp only [if_true]; exact (hp.step k2 (fun q hq e => by have := (hp.lt q hq).1; omega)).weak (by omega)
    · simp only [if_neg e]; exact ((h.pg i (by omega)).keep k1).step k2 (fun q hq e => by have := ((h.pg i (by omega)).lt q hq).1; omega)
  · by_cases e : i = j
    · subst e; simp only [if_true]; exact (hm.step k2 (fun q hq e => by have := (hm.lt q hq).1; omega)).weak (by omega)
    · simp only [if_neg e]; exact ((h.mq i (by omega)).keep k1).step k2 (fun q hq e => by have := ((h.mq i (by omega)).lt q hq).1; omega)
  · by_cases e : i = j
    · subst e; simp only [if_true] at hq ⊢; exact ha q hq
    · simp only [if_neg e] at hq ⊢; exact h.apart i (by omega) q hq
  · by_cases e : i = j
    · subst e
      have e' : ¬ i' = i := fun e => hne e.symm
      simp only [if_true, if_neg e'] at hq ⊢
      intro hq'
      have := hnew q hq
      have := hold i' (by omega) q hq'
      omega
    · by_cases e' : i' = j
      · subst e'
        simp only [if_true, if_neg e] at hq ⊢
        intro hq'
        have := hnew q hq'
        have := hold i (by omega) q hq
        omega
      · simp only [if_neg e, if_neg e'] at hq ⊢
        exact h.dis i i' (by omega) (by omega) hne q hq
theorem PJ.done {g : Nat} {ls : List Pl} {pf mf : Nat → Value} {w : World} (h : PJ g ls.length ls pf mf w) (hg : g < w.heap.size) (hfr : ∀ o, w.frozen? ⟨g, o, none⟩ = false) : PO g g ls.length ls pf mf w :=
  ⟨rfl, hg, Nat.le_refl _, hfr, h.cell, fun i hi => (h.pg i hi).weak (by omega), fun i hi => (h.mq i hi).weak (by omega), fun i hi q hq e => by
    rcases hq with hq | hq
    · have := ((h.pg i hi).lt q hq).1; omega
    · have := ((h.mq i hi).lt q hq).1; omega, h.apart, h.dis⟩
set_option maxRecDepth 100000 in
set_option maxHeartbeats 2000000 in
theorem toPlayerS_own (v : Value) (ls : List Pl) (w : World) (h : RPS No w v ls) :
    Calls Tryz.prog 43 #[v] w (Ret fun r w' => (∃ g pf mf, r = .slice (some ⟨g, 0, none⟩) ls.length ls.length ∧ PO w.heap.size g ls.length ls pf mf w') ∧ Chg No w w') := by
  obtain ⟨a, cap, rfl, hcap, hmax, hlen, pf, mf, hl, hcl⟩ := id h
  obtain ⟨i0, hi, hz0, hz1, hz2⟩ := elPlayers.info
  have hL : ls.length ≤ 1099511627776 := by omega
  go_enter Tryz.func43, Tryz.ntmps43
  go_wp2_with (refine wpList_make_full _ rfl (.tmp 6) (.tmp 6) 29 rfl w.heap.size 69 i0 (.agg #[.int .i64 0, .int .i64 0, .int .i64 0, .slice none 0 0, .slice none 0 0, .int .i64 0, .int .i64 0]) 7 elPlayers.und hi hz0 hz1 .i64 .i64 _ _ ls.length rfl rfl rfl rfl (by rw [hz2]; omega) (by unfold maxLen; omega) (Nat.le_refl _) ?_)
  intro W hW hg
  have hch0 := Chg.grownNone hg
  have hO : ∃ cs, OS 69 7 w.heap.size W (.slice (some ⟨w.heap.size, 0, none⟩) ls.length ls.length) ls.length cs := ⟨_, hL, hW⟩
  obtain ⟨cs0, hO0⟩ := hO
  have hgb := hO0.at.2.2.2.1
  have HL := Lib.hid hl
  have HC := Lib.hid hcl
  clear hg hW hz0 hz1 hz2 hi hl hcl
  go_wp2_with fail
  go_loopw [4] (fun i wr => ∃ (j : Nat) (cs : List Value), j ≤ ls.length ∧ i = .int .i64 j ∧ OS 69 7 w.heap.size wr (.slice (some ⟨w.heap.size, 0, none⟩) ls.length ls.length) ls.length cs ∧ (∃ pf mf : Nat → Value, PJ w.heap.size j ls pf mf wr) ∧ Chg No w wr) (fun i _ => ls.length - (intOf i).toNat)
  case atStart => exact ⟨0, cs0, Nat.zero_le _, rfl, hO0, ⟨fun _ => undef, fun _ => undef, PJ.zero _ _ _ _ _⟩, hch0⟩
  case round =>
    obtain ⟨j, cs, hj, rfl, hO, ⟨PF, MF, hP⟩, hch⟩ := hrel
    clear hO0 hch0 hgb
    by_cases hlt : j < ls.length
    · obtain ⟨b, off, rfl, _, hb, hcell⟩ := HC.out (by intro e; simp [e] at hlt)
      have h7 := (hcell j hlt).step hch hb (fun e => e)
      obtain ⟨hpj, hmj⟩ := HL.out j hlt
      obtain ⟨y, hy⟩ : ∃ y, ls.getD j dPl = y := ⟨_, rfl⟩
      rw [hy] at h7 hpj hmj
      have HY := Lib.hid hy
      have HP := Lib.hid hP
      clear hcell hy hP
      have hj0 : (0 : Int) ≤ (j : Int) := Int.natCast_nonneg _
      have hj1 : (j : Int) < (ls.length : Int) := by omega
      have hw1 : IntKind.i64.wrap ((j : Int) + 1) = (j : Int) + 1 := IntWalk.i64_in _ (by omega)
      obtain ⟨pj, hpe⟩ : ∃ pj, pf j = pj := ⟨_, rfl⟩
      obtain ⟨mj, hme⟩ : ∃ mj, mf j = mj := ⟨_, rfl⟩
      rw [hpe] at hpj h7
      rw [hme] at hmj h7
      clear hpe hme
      obtain ⟨ya, yn, yc, rfl⟩ := hpj.shape
      obtain ⟨za, zn, zc, rfl⟩ := hmj.shape
      obtain ⟨g0, g1, g2, g3, g4, g5, g6⟩ := id h7
      have hgw := hO.at.2.2.2.1
      go_wp2_with fail
      refine (toPlayer_any No _ y wr ⟨_, _, rfl, hpj.keep hch, hmj.keep hch⟩).mono ?_
      rintro e w1 ⟨v1, rfl, o1, k1⟩
      obtain ⟨xp, xm, rfl, hxp, hxm, hxa⟩ := o1
      obtain ⟨oa, on, oc, rfl⟩ := hxp.shape
      obtain ⟨qa, qn, qc, rfl⟩ := hxm.shape
      have hO1 := hO.keep k1
      have hch1 := hch.keep k1
      have hcl7 := hO1.cl
      have hcells : ∀ r, r < 7 → ∃ u, w1.cell? ⟨w.heap.size, j * 7 + r, none⟩ = some u := fun r hr => ⟨_, hO1.at.1 (j * 7 + r) (by rw [hcl7]; omega)⟩
      have hfz := hO1.at.2.1
      clear g0 g1 g2 g3 g4 g5 g6 h7 hO
      obtain ⟨u0, hu0⟩ := hcells 0 (by omega)
      have fz0 := hfz (j * 7 + 0)
      obtain ⟨u1, hu1⟩ := hcells 1 (by omega)
      have fz1 := hfz (j * 7 + 1)
      obtain ⟨u2, hu2⟩ := hcells 2 (by omega)
      have fz2 := hfz (j * 7 + 2)
      obtain ⟨u3, hu3⟩ := hcells 3 (by omega)
      have fz3 := hfz (j * 7 + 3)
      obtain ⟨u4, hu4⟩ := hcells 4 (by omega)
      have fz4 := hfz (j * 7 + 4)
      obtain ⟨u5, hu5⟩ := hcells 5 (by omega)
      have fz5 := hfz (j * 7 + 5)
      obtain ⟨u6, hu6⟩ := hcells 6 (by omega)
      have fz6 := hfz (j * 7 + 6)
      rw [Nat.add_zero] at hu0 fz0
      have hO2 := (((((((hO1.store (j * 7) (.int .i64 y.frm)).1.store (j * 7 + 1) (.int .i64 y.ca.pol)).1.store (j * 7 + 2) (.int .i64 y.ca.size)).1.store (j * 7 + 3) (.slice oa on oc)).1.store (j * 7 + 4) (.slice qa qn qc)).1.store (j * 7 + 5) (.int .i64 y.ca.hand)).1.store (j * 7 + 6) (.int .i64 y.fa)).1
      have ck := Chg.row7 w1 w.heap.size (j * 7) (.int .i64 y.frm) (.int .i64 y.ca.pol) (.int .i64 y.ca.size) (.slice oa on oc) (.slice qa qn qc) (.int .i64 y.ca.hand) (.int .i64 y.fa)
      have hnew := Cell7.row (w := w1) (g := w.heap.size) (o := j * 7) y (.slice oa on oc) (.slice qa qn qc) hcells
      have hoth := fun q (hq : q < j * 7 ∨ j * 7 + 7 ≤ q) => other7 w1 w.heap.size (j * 7) q hq (.int .i64 y.frm) (.int .i64 y.ca.pol) (.int .i64 y.ca.size) (.slice oa on oc) (.slice qa qn qc) (.int .i64 y.ca.hand) (.int .i64 y.fa)
      have hnext := HP.out.next hgw k1 ck hoth (pv := .slice oa on oc) (mv := .slice qa qn qc) (by rw [HY.out]; exact hnew) (by rw [HY.out]; exact hxp) (by rw [HY.out]; exact hxm) hxa
      have HNXT := Lib.hid (⟨_, _, hnext⟩ : ∃ pf mf : Nat → Value, PJ w.heap.size (j + 1) ls pf mf _)
      have HCK := Lib.hid ck
      have HO2 := Lib.hid hO2
      clear hnew hoth ck hO2 hcells hfz hnext
      go_wp2_with fail
      go_round
      case measure => simp [intOf]; omega
      case rel =>
        exact ⟨j + 1, _, by omega, by go_num, HO2.out, HNXT.out, hch1.step HCK.out (fun k hk hl => by omega)⟩
    · have hjl : j = ls.length := by omega
      subst hjl
      have hr := hP.done hO.at.2.2.2.1 hO.at.2.1
      clear hP
      go_wp2_with fail
      go_ret
      exact ⟨_, rfl, ⟨_, _, _, rfl, hr⟩, hch⟩

theorem PO.put3 {base g n : Nat} {ls : List Pl} {pf mf : Nat → Value} {w : World} (h : PO base g n ls pf mf w) {j : Nat} (hj : j < n) {x : Pl} (hx : ls.getD j dPl = x) (a b c : Int) :
    PO base g n (ls.set j ⟨a, { x.ca with pol := b, size := c }, x.fa⟩) pf mf (((w.setCell ⟨g, j * 7, none⟩ (.int .i64 a)).setCell ⟨g, j * 7 + 1, none⟩ (.int .i64 b)).setCell ⟨g, j * 7 + 2, none⟩ (.int .i64 c)) ∧
    Chg (fun q => q = g) w (((w.setCell ⟨g, j * 7, none⟩ (.int .i64 a)).setCell ⟨g, j * 7 + 1, none⟩ (.int .i64 b)).setCell ⟨g, j * 7 + 2, none⟩ (.int .i64 c)) := by
  subst hx
  have hc : Chg (fun q => q = g) w (((w.setCell ⟨g, j * 7, none⟩ (.int .i64 a)).setCell ⟨g, j * 7 + 1, none⟩ (.int .i64 b)).setCell ⟨g, j * 7 + 2, none⟩ (.int .i64 c)) :=
    (((Chg.refl (fun q => q = g) w).setCell (p := ⟨g, j * 7, none⟩) (fun _ => rfl) _).setCell (p := ⟨g, j * 7 + 1, none⟩) (fun _ => rfl) _).setCell (p := ⟨g, j * 7 + 2, none⟩) (fun _ => rfl) _
  refine ⟨h.upd hj _ rfl rfl hc (fun o => by simp only [World.frozen?_setCell]; exact h.fr o) (fun o ho => ?_) ((((h.cell j hj).s0 a).s1 b).s2 c), hc⟩
  rw [World.cell?_setCell_other _ _ _ _ (by simp <;> omega), World.cell?_setCell_other _ _ _ _ (by simp <;> omega), World.cell?_setCell_other _ _ _ _ (by simp <;> omega)]
theorem PO.put2 {base g n : Nat} {ls : List Pl} {pf mf : Nat → Value} {w : World} (h : PO base g n ls pf mf w) {j : Nat} (hj : j < n) {x : Pl} (hx : ls.getD j dPl = x) (a b : Int) :
    PO base g n (ls.set j ⟨x.frm, { x.ca with hand := a }, b⟩) pf mf ((w.setCell ⟨g, j * 7 + 5, none⟩ (.int .i64 a)).setCell ⟨g, j * 7 + 6, none⟩ (.int .i64 b)) ∧
    Chg (fun q => q = g) w ((w.setCell ⟨g, j * 7 + 5, none⟩ (.int .i64 a)).setCell ⟨g, j * 7 + 6, none⟩ (.int .i64 b)) := by
  subst hx
  have hc : Chg (fun q => q = g) w ((w.setCell ⟨g, j * 7 + 5, none⟩ (.int .i64 a)).setCell ⟨g, j * 7 + 6, none⟩ (.int .i64 b)) :=
    ((Chg.refl (fun q => q = g) w).setCell (p := ⟨g, j * 7 + 5, none⟩) (fun _ => rfl) _).setCell (p := ⟨g, j * 7 + 6, none⟩) (fun _ => rfl) _
  refine ⟨h.upd hj _ rfl rfl hc (fun o => by simp only [World.frozen?_setCell]; exact h.fr o) (fun o ho => ?_) (((h.cell j hj).s5 a).s6 b), hc⟩
  rw [World.cell?_setCell_other _ _ _ _ (by simp <;> omega), World.cell?_setCell_other _ _ _ _ (by simp <;> omega)]
theorem getD_setS (ls : List Pl) (j : Nat) (x : Pl) (hj : j < ls.length) : (ls.set j x).getD j dPl = x := by rw [getD_setP ls j x hj, if_pos rfl]
set_option maxRecDepth 100000 in
set_option maxHeartbeats 2000000 in
theorem markPlayerS_any (base g n cap : Nat) (ls : List Pl) (pf mf : Nat → Value) (k : Int) (w : World) (h : PO base g n ls pf mf w) (hn : n ≤ 1048576) (hk : 0 ≤ k) (hk' : k + totPl ls ≤ 100000000) :
    Calls Tryz.prog 52 #[.slice (some ⟨g, 0, none⟩) n cap, .int .i64 k] w (Ret fun r w' => r = .int .i64 (k + totPl ls) ∧ PO base g n (mkTo k ls n) pf mf w' ∧ Chg (FP g n pf mf) w w') := by
  have hln := h.len
  have HLN := Lib.hid hln
  go_enter Tryz.func52, Tryz.ntmps52
  go_wp2_with fail
  go_loopw [1, 5] (fun kk z wr => ∃ j : Nat, j ≤ n ∧ z = .int .i64 (j : Int) ∧ kk = .int .i64 (k + totPl (ls.take j)) ∧ PO base g n (mkTo k ls j) pf mf wr ∧ Chg (FP g n pf mf) w wr) (fun _ z _ => n - (intOf z).toNat)
  case atStart => exact ⟨0, Nat.zero_le _, rfl, by simp [totPl], h, Chg.refl _ _⟩
  case round =>
    obtain ⟨j, hj, rfl, rfl, hO, hch⟩ := hrel
    have hj0 : (0 : Int) ≤ (j : Int) := Int.natCast_nonneg _
    by_cases hlt : j < n
    · have hj1 : (j : Int) < (n : Int) := by omega
      have hwj : IntKind.i64.wrap ((j : Int) + 1) = (j : Int) + 1 := IntWalk.i64_in _ (by omega)
      have hsn := totPl_snoc ls j (by omega)
      have hle := totPl_le ls (j + 1)
      have hab := mkTo_above k ls j (by omega) j (Nat.le_refl _)
      have hml := mkTo_len k ls j
      have hnx : mkTo k ls (j + 1) = (mkTo k ls j).set j (mkPl (k + totPl (ls.take j)) (ls.getD j dPl)) := rfl
      obtain ⟨x, hx⟩ : ∃ x, ls.getD j dPl = x := ⟨_, rfl⟩
      obtain ⟨L0, hL0⟩ : ∃ L0, mkTo k ls j = L0 := ⟨_, rfl⟩
      obtain ⟨K, hK⟩ : ∃ K : Int, k + totPl (ls.take j) = K := ⟨_, rfl⟩
      rw [hx] at hsn hab hnx
      rw [hL0] at hO hab hml hnx
      rw [hK] at hnx ⊢
      have hL0j : j < L0.length := by omega
      have hsz : szPl x = 5 + x.ca.pages.length + x.ca.marks.length := rfl
      have hKe : k + (totPl (ls.take (j + 1)) : Int) = K + 3 + x.ca.pages.length + x.ca.marks.length + 1 + 1 := by omega
      have hK0 : 0 ≤ K := by omega
      have hK1 : K + 5 + x.ca.pages.length + x.ca.marks.length ≤ 100000000 := by omega
      have HNX := Lib.hid hnx
      have HKE := Lib.hid hKe
      have hw1 : IntKind.i64.wrap (K + 1) = K + 1 := IntWalk.i64_in _ (by omega)
      have hw2 : IntKind.i64.wrap (K + 1 + 1) = K + 2 := (IntWalk.i64_in _ (by omega)).trans (by omega)
      have hw3 : IntKind.i64.wrap (K + 2 + 1) = K + 3 := (IntWalk.i64_in _ (by omega)).trans (by omega)
      obtain ⟨np, hnp⟩ : ∃ np, x.ca.pages.length = np := ⟨_, rfl⟩
      obtain ⟨nm, hnm⟩ : ∃ nm, x.ca.marks.length = nm := ⟨_, rfl⟩
      rw [hnp, hnm] at hK1 HKE
      have hw4 : IntKind.i64.wrap (K + 3 + (np : Int) + (nm : Int) + 1) = K + 3 + np + nm + 1 := IntWalk.i64_in _ (by omega)
      have hw5 : IntKind.i64.wrap (K + 3 + (np : Int) + (nm : Int) + 1 + 1) = K + 3 + np + nm + 1 + 1 := IntWalk.i64_in _ (by omega)
      have h7 := hO.cell j hlt
      have hpg := hO.pg j hlt
      have hmk := hO.mq j hlt
      rw [hab] at h7 hpg hmk
      obtain ⟨P1, kP1⟩ := hO.put3 hlt hab K (K + 1) (K + 2)
      have hf0 := hO.fr (j * 7)
      have hf1 := hO.fr (j * 7 + 1)
      have hf2 := hO.fr (j * 7 + 2)
      obtain ⟨pj, hpj⟩ : ∃ pj, pf j = pj := ⟨_, rfl⟩
      obtain ⟨mj, hmj⟩ : ∃ mj, mf j = mj := ⟨_, rfl⟩
      rw [hpj] at h7 hpg
      rw [hmj] at h7 hmk
      obtain ⟨pa, pc, rfl, _⟩ := id hpg.view
      obtain ⟨ma, mc, rfl, _⟩ := id hmk.view
      obtain ⟨c0, c1, c2, c3, c4, c5, c6⟩ := id h7
      have HP1 := Lib.hid P1
      have HKP1 := Lib.hid kP1
      have HPJ := Lib.hid hpj
      have HMJ := Lib.hid hmj
      clear hsn hle hab hml hnx hx hL0 hK hKe hpj hmj P1 kP1 hpg hmk h7
      go_wp2_with fail
      obtain ⟨wA, hwA⟩ : ∃ wA, (((wr.setCell ⟨g, j * 7, none⟩ (.int .i64 K)).setCell ⟨g, j * 7 + 1, none⟩ (.int .i64 (K + 1))).setCell ⟨g, j * 7 + 1 + 1, none⟩ (.int .i64 (K + 2))) = wA := ⟨_, rfl⟩
      have P1 : PO base g n (L0.set j ⟨K, { x.ca with pol := K + 1, size := K + 2 }, x.fa⟩) pf mf wA := hwA ▸ HP1.out
      have kP1 : Chg (fun q => q = g) wr wA := hwA ▸ HKP1.out
      rw [hwA]
      clear c0 c1 c2 c3 c4 c5 c6 hf0 hf1 hf2 HP1 HKP1 hwA
      have hg1 : ∀ y : Pl, (L0.set j y).getD j dPl = y := fun y => getD_setS L0 j y hL0j
      have pg1 := P1.pg j hlt
      rw [hg1, HPJ.out, hnp] at pg1
      have pg1 : OI base wA (.slice pa np pc) x.ca.pages := pg1
      rw [hnp] at HPJ
      rw [hnm] at HMJ
      refine (markIntS_any base _ _ (K + 3) wA pg1 (by omega)).mono ?_
      rintro e wB ⟨_, rfl, rfl, oB, kB⟩
      rw [hnp] at oB ⊢
      have P2 : PO base g n (L0.set j ⟨K, { x.ca with pol := K + 1, size := K + 2, pages := marks (K + 3) np }, x.fa⟩) pf mf wB := by
        have t := P1.updP hlt (HPJ.out.symm ▸ oB) (HPJ.out.symm ▸ kB)
        rw [hg1, List.set_set] at t
        exact t
      have h72 := P2.cell j hlt
      have mk2 := P2.mq j hlt
      rw [hg1, HMJ.out] at mk2
      have mk2 : OI base wB (.slice ma nm mc) x.ca.marks := mk2
      rw [hg1, HPJ.out, HMJ.out] at h72
      obtain ⟨c0, c1, c2, c3, c4, c5, c6⟩ := id h72
      have HP2 := Lib.hid P2
      have HK1 := Lib.hid kP1
      have HKB := Lib.hid kB
      clear P1 kP1 pg1 oB kB P2 h72
      go_wp2_with fail
      refine (markIntS_any base _ _ (K + 3 + np) wB mk2 (by omega)).mono ?_
      rintro e wC ⟨_, rfl, rfl, oC, kC⟩
      rw [hnm] at oC ⊢
      have P3 : PO base g n (L0.set j ⟨K, { x.ca with pol := K + 1, size := K + 2, pages := marks (K + 3) np, marks := marks (K + 3 + np) nm }, x.fa⟩) pf mf wC := by
        have t := HP2.out.updM hlt (HMJ.out.symm ▸ oC) (HMJ.out.symm ▸ kC)
        rw [hg1, List.set_set] at t
        exact t
      have h73 := P3.cell j hlt
      obtain ⟨c0, c1, c2, c3, c4, c5, c6⟩ := id h73
      obtain ⟨P4, kP4⟩ := P3.put2 hlt (hg1 _) (K + 3 + np + nm) (K + 3 + np + nm + 1)
      rw [List.set_set] at P4
      have hf5 := P3.fr (j * 7 + 5)
      have hf6 := P3.fr (j * 7 + 6)
      have HP4 := Lib.hid P4
      have HK4 := Lib.hid kP4
      have HKC := Lib.hid kC
      clear mk2 oC P3 kC h73 P4 kP4
      go_wp2_with fail
      go_round
      case measure => simp [intOf]; omega
      case rel =>
        have hlist : mkTo k ls (j + 1) = L0.set j (mkPl K x) := HNX.out
        have hsub : ∀ q, q = g ∨ own (.slice pa np pc) q ∨ own (.slice ma nm mc) q → FP g n pf mf q := fun q hq => by
          rcases hq with rfl | hq | hq
          · exact .inl rfl
          · exact .inr ⟨j, hlt, .inl (HPJ.out.symm ▸ hq)⟩
          · exact .inr ⟨j, hlt, .inr (HMJ.out.symm ▸ hq)⟩
        refine ⟨j + 1, by omega, by go_num, by rw [HKE.out], ?_, ?_⟩
        · rw [hlist]
          have e : mkPl K x = ⟨K, { x.ca with pol := K + 1, size := K + 2, pages := marks (K + 3) np, marks := marks (K + 3 + np) nm, hand := K + 3 + np + nm }, K + 3 + np + nm + 1⟩ := by unfold mkPl; rw [hnp, hnm]
          rw [e]
          exact HP4.out
        · exact (((hch.trans (HK1.out.mono fun q hq _ => hsub q (.inl hq))).trans (HKB.out.mono fun q hq _ => hsub q (.inr (.inl hq)))).trans (HKC.out.mono fun q hq _ => hsub q (.inr (.inr hq)))).trans (HK4.out.mono fun q hq _ => hsub q (.inl hq))
    · have hje : j = n := by omega
      subst hje
      have he : ls.take j = ls := List.take_of_length_le (by rw [HLN.out]; exact Nat.le_refl _)
      rw [he]
      go_wp2_with fail
      go_ret
      exact ⟨_, rfl, rfl, hO, hch⟩
end Go.Proofs.YtodnkkmjjlfoiaaGreat

/- a Tournament of the call's own: copied, marked; a list of [2]int compared, marked, looked at -/
namespace Go.Proofs.YtodnkkmjjlfoiaaGreat
open Go.RowKit

theorem PO.weak {base base' g n : Nat} {ls : List Pl} {pf mf : Nat → Value} {w : World} (h : PO base g n ls pf mf w) (hb : base' ≤ base) : PO base' g n ls pf mf w :=
  ⟨h.len, h.lt, Nat.le_trans hb h.low, h.fr, h.cell, fun i hi => (h.pg i hi).weak hb, fun i hi => (h.mq i hi).weak hb, h.far, h.apart, h.dis⟩
/-- a Tournament of the call's own -/
def TOwn (base : Nat) (w : World) (v : Value) (t : To) (g : Nat) (pf mf : Nat → Value) (rv : Value) : Prop :=
  v = .agg #[.int .i64 t.items, .slice (some ⟨g, 0, none⟩) t.ps.length t.ps.length, rv] ∧ PO base g t.ps.length t.ps pf mf w ∧ OI base w rv t.reqs ∧ ∀ q, FP g t.ps.length pf mf q → ¬ own rv q
def ownT (g n : Nat) (pf mf : Nat → Value) (rv : Value) : Nat → Prop := fun q => FP g n pf mf q ∨ own rv q
theorem TOwn.inF {base : Nat} {w : World} {v : Value} {t : To} {g : Nat} {pf mf : Nat → Value} {rv : Value} (h : TOwn base w v t g pf mf rv) (q : Nat) (hq : ownT g t.ps.length pf mf rv q) : base ≤ q ∧ q < w.heap.size := by
  rcases hq with hq | hq
  · exact h.2.1.inF q hq
  · exact h.2.2.1.lt q hq
theorem TOwn.step {base : Nat} {w w' : World} {v : Value} {t : To} {g : Nat} {pf mf : Nat → Value} {rv : Value} {S : Nat → Prop} (h : TOwn base w v t g pf mf rv) (hc : Chg S w w') (hS : ∀ q, ownT g t.ps.length pf mf rv q → ¬ S q) : TOwn base w' v t g pf mf rv :=
  ⟨h.1, h.2.1.step hc (fun q hq => hS q (.inl hq)), h.2.2.1.step hc (fun q hq => hS q (.inr hq)), h.2.2.2⟩
theorem TOwn.keep {base : Nat} {w w' : World} {v : Value} {t : To} {g : Nat} {pf mf : Nat → Value} {rv : Value} (h : TOwn base w v t g pf mf rv) (hc : Chg No w w') : TOwn base w' v t g pf mf rv := h.step hc (fun _ _ e => e)
theorem TOwn.rt {base : Nat} {w : World} {v : Value} {t : To} {g : Nat} {pf mf : Nat → Value} {rv : Value} (h : TOwn base w v t g pf mf rv) (hn : t.ps.length ≤ 1048576) : RT No w v t :=
  ⟨_, _, h.1, h.2.1.read (Nat.le_refl _) (by omega) hn (fun _ _ e => e), h.2.2.1.read (fun _ _ e => e)⟩
set_option maxRecDepth 100000 in
set_option maxHeartbeats 1000000 in
theorem toTournament_own (v : Value) (t : To) (w : World) (h : RT No w v t) :
    Calls Tryz.prog 9 #[v] w (Ret fun r w' => (∃ g pf mf rv, TOwn w.heap.size w' r t g pf mf rv) ∧ Chg No w w') := by
  obtain ⟨it, ps, rq⟩ := t
  obtain ⟨pv, rv, rfl, hps, hrq⟩ := h
  simp only [TOwn] at hps hrq ⊢
  obtain ⟨ra, rn, rc, rfl⟩ := hrq.shape
  obtain ⟨pa, pn, pc, rfl⟩ := hps.shape
  go_enter Tryz.func9, Tryz.ntmps9
  go_wp2_with fail
  refine boxes33 (R := fun W => Calls _ _ _ W _) (fun W hW b0 b1 b2 => ?_)
  have hsz := hW.size
  have hl2 := b2.lt
  refine (toPlayerS_own _ ps W (hps.keep hW)).mono ?_
  rintro e w1 ⟨_, rfl, ⟨G, pf, mf, rfl, o1⟩, k1⟩
  have b0 := b0.keep k1
  have b1 := b1.keep k1
  have b2 := b2.keep k1
  have hW1 := hW.keep k1
  have g1 := b2.c1
  have g1f := b2.fr 1
  obtain ⟨c0, c1, c2, _⟩ := b0.far ⟨w.heap.size + 1 + 1, 1, none⟩ (.slice (some ⟨G, 0, none⟩) ps.length ps.length) (by simp <;> omega)
  go_wp2_with fail
  have b1 := b1.far ⟨w.heap.size + 1 + 1, 1, none⟩ (.slice (some ⟨G, 0, none⟩) ps.length ps.length) (by simp <;> omega)
  have b2 := b2.set1 (.slice (some ⟨G, 0, none⟩) ps.length ps.length)
  have o1 := o1.step (S := fun q => q = w.heap.size + 1 + 1) ((Chg.refl (fun q => q = w.heap.size + 1 + 1) w1).setCell (p := ⟨w.heap.size + 1 + 1, 1, none⟩) (fun _ => rfl) (.slice (some ⟨G, 0, none⟩) ps.length ps.length)) (fun k hk e => by have := o1.inF k hk; omega)
  have hW1 := hW1.setCell (p := ⟨w.heap.size + 1 + 1, 1, none⟩) (fun h => by simp at h; omega) (.slice (some ⟨G, 0, none⟩) ps.length ps.length)
  clear c0 c1 c2 g1 g1f
  have hsW1 : W.heap.size ≤ (w1.setCell ⟨w.heap.size + 1 + 1, 1, none⟩ (.slice (some ⟨G, 0, none⟩) ps.length ps.length)).heap.size := by have := k1.size; simpa [World.setCell] using this
  generalize w1.setCell ⟨w.heap.size + 1 + 1, 1, none⟩ (.slice (some ⟨G, 0, none⟩) ps.length ps.length) = W1 at *
  refine (toIntS_any No _ _ W1 (hrq.keep hW1)).mono ?_
  rintro e w2 ⟨v2, rfl, o2, k2⟩
  obtain ⟨za, zn, zc, rfl⟩ := o2.shape
  have b1 := b1.keep k2
  have b2 := b2.keep k2
  have hin := o1.inF
  have o1 := o1.keep k2
  have hW2 := hW1.keep k2
  have hs1 := hW1.size
  have hs2 := hW2.size
  have hl3 := b1.lt
  have g2 := b2.c2
  have g2f := b2.fr 2
  obtain ⟨r0, r1, r2, _⟩ := b2.set2 (.slice za zn zc)
  have B1 := b1.far ⟨w.heap.size + 1 + 1, 2, none⟩ (.slice za zn zc) (by simp <;> omega)
  obtain ⟨s0, s1, s2, sf⟩ := id B1
  have sf0 := sf 0
  have sf1 := sf 1
  have sf2 := sf 2
  clear sf
  obtain ⟨z0, z1, z2, _⟩ := ((B1.set0 (.int .i64 it)).set1 (.slice (some ⟨G, 0, none⟩) ps.length ps.length)).set2 (.slice za zn zc)
  have ch : Chg (fun q => q = w.heap.size + 1 ∨ q = w.heap.size + 1 + 1) w2 ((((w2.setCell ⟨w.heap.size + 1 + 1, 2, none⟩ (.slice za zn zc)).setCell ⟨w.heap.size + 1, 0, none⟩ (.int .i64 it)).setCell ⟨w.heap.size + 1, 1, none⟩ (.slice (some ⟨G, 0, none⟩) ps.length ps.length)).setCell ⟨w.heap.size + 1, 2, none⟩ (.slice za zn zc)) :=
    ((((Chg.refl (fun q => q = w.heap.size + 1 ∨ q = w.heap.size + 1 + 1) w2).setCell (p := ⟨w.heap.size + 1 + 1, 2, none⟩) (fun _ => .inr rfl) _).setCell (p := ⟨w.heap.size + 1, 0, none⟩) (fun _ => .inl rfl) _).setCell (p := ⟨w.heap.size + 1, 1, none⟩) (fun _ => .inl rfl) _).setCell (p := ⟨w.heap.size + 1, 2, none⟩) (fun _ => .inl rfl) _
  have f1 := (o1.step ch (fun k hk e => by have := hin k hk; rcases e with h | h <;> omega)).weak (base' := w.heap.size) hsz
  have f2 := (o2.step ch (fun q hq e => by have := (o2.lt q hq).1; rcases e with h | h <;> omega)).weak (base' := w.heap.size) (by omega)
  have f3 : ∀ q, FP G ps.length pf mf q → ¬ own (.slice za zn zc) q := fun q hq e => by
    have := hin q hq
    have := (o2.lt q e).1
    omega
  have hk := hW2.step ch (fun q hq hl => by rcases hq with h | h <;> omega)
  clear ch b0 b1 b2 B1
  go_wp2_with fail
  refine bodyPost_ret (v := .agg #[.int .i64 it, .slice (some ⟨G, 0, none⟩) ps.length ps.length, .slice za zn zc]) (by simp [results, Tryz.results9, go_sem, z0, z1, z2]) rfl ?_
  exact ⟨_, rfl, ⟨G, pf, mf, _, rfl, f1, f2, f3⟩, hk⟩

def markT (k : Int) (t : To) : To := ⟨t.items, mkTo k t.ps t.ps.length, marks (k + totPl t.ps) t.reqs.length⟩
set_option maxRecDepth 100000 in
set_option maxHeartbeats 1000000 in
theorem markTournament_any (base : Nat) (v : Value) (t : To) (k : Int) (w : World) {g : Nat} {pf mf : Nat → Value} {rv : Value} (h : TOwn base w v t g pf mf rv) (hn : t.ps.length ≤ 1048576) (hk : 0 ≤ k) (hk' : k + totPl t.ps ≤ 100000000) :
    Calls Tryz.prog 14 #[v, .int .i64 k] w (Ret fun r w' => r = .int .i64 (k + totPl t.ps + t.reqs.length) ∧ TOwn base w' v (markT k t) g pf mf rv ∧ Chg (ownT g t.ps.length pf mf rv) w w') := by
  obtain ⟨it, ps, rq⟩ := t
  obtain ⟨rfl, hP, hR, hd⟩ := h
  simp only at hP hR hd hn hk' ⊢
  have hml := mkTo_len k ps ps.length
  obtain ⟨ra, rn, rc, rfl⟩ := hR.shape
  have k0 := (Chg.refl No w).alloc (.cells #[.int .i64 it, .slice (some ⟨g, 0, none⟩) ps.length ps.length, .slice ra rn rc] 31)
  have b0 := Box3.new w (.int .i64 it) (.slice (some ⟨g, 0, none⟩) ps.length ps.length) (.slice ra rn rc) 31
  obtain ⟨c0, c1, c2, _⟩ := id b0
  have hb : ¬ FP g ps.length pf mf w.heap.size := fun hq => by have := (hP.inF _ hq).2; omega
  go_enter Tryz.func14, Tryz.ntmps14
  go_wp2_with fail
  refine (markPlayerS_any base g ps.length ps.length ps pf mf k _ (hP.keep k0) hn hk hk').mono ?_
  rintro e w1 ⟨_, rfl, rfl, o1, k1⟩
  have b0 := b0.step k1 hb
  clear c0 c1 c2
  obtain ⟨c0, c1, c2, _⟩ := id b0
  have hR1 := (hR.keep k0).step k1 (fun q hq e => hd q e hq)
  go_wp2_with fail
  refine (markIntS_any base _ rq (k + totPl ps) w1 hR1 (by omega)).mono ?_
  rintro e w2 ⟨_, rfl, rfl, o2, k2⟩
  go_wp2_with fail
  go_ret
  refine ⟨_, rfl, rfl, ⟨by simp only [markT, hml], ?_, by simpa only [markT] using o2, by simpa only [markT, hml] using hd⟩, ?_⟩
  · simp only [markT, hml]; exact o1.step k2 (fun q hq e => hd q hq e)
  · exact ((k0.mono (fun _ e _ => e.elim)).trans (k1.mono (fun q e _ => .inl e))).trans (k2.mono (fun q e _ => .inr e))
end Go.Proofs.YtodnkkmjjlfoiaaGreat

/- a marked Tournament looked at -/
namespace Go.Proofs.YtodnkkmjjlfoiaaGreat
open Go.RowKit

set_option maxRecDepth 100000 in
set_option maxHeartbeats 4000000 in
theorem heldPlayerS_any (v : Value) (ls : List Pl) (k : Int) (w : World) (h : RPS No w v (mkTo k ls ls.length)) (hk : 0 ≤ k) (hk' : k + totPl ls ≤ 100000000) :
    Calls Tryz.prog 54 #[v, .int .i64 k] w (Ret fun r w' => r = .int .i64 (k + totPl ls) ∧ Chg No w w') := by
  have hml := mkTo_len k ls ls.length
  obtain ⟨a, cap, rfl, hcap, hmax, hlen, pf, mf, hl, hcl⟩ := id h
  rw [hml] at hcap hlen hl ⊢
  have hcl' : ls.length ≠ 0 → ∃ b off, a = some ⟨b, off, none⟩ ∧ b < w.heap.size ∧ ∀ i, i < ls.length → Cell7 w b (off + i * 7) ((mkTo k ls ls.length).getD i dPl) (pf i) (mf i) := fun hne => by
    obtain ⟨b, off, h1, _, h2, h3⟩ := hcl (fun e => hne (by have := congrArg List.length e; rw [hml] at this; simpa using this))
    exact ⟨b, off, h1, h2, fun i hi => h3 i (by rw [hml]; exact hi)⟩
  have HL := Lib.hid hl
  have HC := Lib.hid hcl'
  clear hl hcl hcl' hml
  go_enter Tryz.func54, Tryz.ntmps54
  go_wp2_with fail
  go_loopw [1, 5] (fun s i wr => ∃ j : Nat, j ≤ ls.length ∧ i = .int .i64 (j : Int) ∧ s = .int .i64 (k + totPl (ls.take j)) ∧ wr = w) (fun _ i _ => ls.length - (intOf i).toNat)
  case atStart => exact ⟨0, Nat.zero_le _, rfl, by simp [totPl], rfl⟩
  case round =>
    obtain ⟨j, hj, rfl, rfl, rfl⟩ := hrel
    have hj0 : (0 : Int) ≤ (j : Int) := Int.natCast_nonneg _
    by_cases hlt : j < ls.length
    · have hj1 : (j : Int) < (ls.length : Int) := by omega
      have hwj : IntKind.i64.wrap ((j : Int) + 1) = (j : Int) + 1 := IntWalk.i64_in _ (by omega)
      obtain ⟨b, off, rfl, hb, hcell⟩ := HC.out (by omega)
      have h7 := hcell j hlt
      obtain ⟨hpj, hmj⟩ := HL.out j hlt
      have hbl := mkTo_below k ls ls.length (Nat.le_refl _) j hlt
      have hsn := totPl_snoc ls j hlt
      have hle := totPl_le ls (j + 1)
      obtain ⟨x, hx⟩ : ∃ x, ls.getD j dPl = x := ⟨_, rfl⟩
      obtain ⟨K, hK⟩ : ∃ K : Int, k + totPl (ls.take j) = K := ⟨_, rfl⟩
      rw [hx] at hbl hsn
      rw [hK] at hbl ⊢
      rw [hbl] at h7 hpj hmj
      have hsz : szPl x = 5 + x.ca.pages.length + x.ca.marks.length := rfl
      obtain ⟨np, hnp⟩ : ∃ np, x.ca.pages.length = np := ⟨_, rfl⟩
      obtain ⟨nm, hnm⟩ : ∃ nm, x.ca.marks.length = nm := ⟨_, rfl⟩
      rw [hnp, hnm] at hsz
      have hKe : k + (totPl (ls.take (j + 1)) : Int) = K + 3 + np + nm + 1 + 1 := by omega
      have hK0 : 0 ≤ K := by omega
      have hK1 : K + 5 + np + nm ≤ 100000000 := by omega
      have HKE := Lib.hid hKe
      unfold mkPl at h7 hpj hmj
      rw [hnp, hnm] at h7
      simp only [hnp, hnm] at hpj hmj
      have hw1 : IntKind.i64.wrap (K + 1) = K + 1 := IntWalk.i64_in _ (by omega)
      have hw2 : IntKind.i64.wrap (K + 1 + 1) = K + 2 := (IntWalk.i64_in _ (by omega)).trans (by omega)
      have hw3 : IntKind.i64.wrap (K + 2 + 1) = K + 3 := (IntWalk.i64_in _ (by omega)).trans (by omega)
      have hw4 : IntKind.i64.wrap (K + 3 + (np : Int) + (nm : Int) + 1) = K + 3 + np + nm + 1 := IntWalk.i64_in _ (by omega)
      have hw5 : IntKind.i64.wrap (K + 3 + (np : Int) + (nm : Int) + 1 + 1) = K + 3 + np + nm + 1 + 1 := IntWalk.i64_in _ (by omega)
      have hng1 : ¬ K + 3 + (np : Int) < 0 := by omega
      have hng2 : ¬ K + 3 + (np : Int) + (nm : Int) < 0 := by omega
      generalize pf j = pj at hpj h7
      generalize mf j = mj at hmj h7
      obtain ⟨ya, yn, yc, rfl⟩ := hpj.shape
      obtain ⟨za, zn, zc, rfl⟩ := hmj.shape
      obtain ⟨c0, c1, c2, c3, c4, c5, c6⟩ := id h7
      clear hcell hx hK hbl hsn hle hsz hKe h7 hnp hnm
      go_wp2_with fail
      refine (heldIntS_any No _ np (K + 3) _ hpj (by omega)).mono ?_
      rintro e w1 ⟨rfl, rfl⟩
      go_wp2_with fail
      refine (heldIntS_any No _ nm (K + 3 + np) _ hmj (by omega)).mono ?_
      rintro e w1 ⟨rfl, rfl⟩
      go_wp2_with fail
      go_round
      case measure => simp [intOf]; omega
      case rel => exact ⟨j + 1, by omega, by go_num, by rw [HKE.out], by trivial⟩
    · have hje : j = ls.length := by omega
      subst hje
      rw [List.take_length]
      go_wp2_with fail
      go_ret
      exact ⟨_, rfl, rfl, Chg.refl _ _⟩

set_option maxRecDepth 100000 in
set_option maxHeartbeats 1000000 in
theorem heldTournament_any (v : Value) (t : To) (k : Int) (w : World) (h : RT No w v (markT k t)) (hk : 0 ≤ k) (hk' : k + totPl t.ps ≤ 100000000) :
    Calls Tryz.prog 16 #[v, .int .i64 k] w (Ret fun r w' => r = .int .i64 (k + totPl t.ps + t.reqs.length) ∧ Chg No w w') := by
  obtain ⟨it, ps, rq⟩ := t
  obtain ⟨pv, rv, rfl, hps, hrq⟩ := h
  simp only [markT] at hps hrq hk' ⊢
  obtain ⟨ra, rn, rc, rfl⟩ := hrq.shape
  obtain ⟨pa, pn, pc, rfl⟩ := hps.shape
  have k0 := (Chg.refl No w).alloc (.cells #[.int .i64 it, .slice pa pn pc, .slice ra rn rc] 31)
  have b0 := Box3.new w (.int .i64 it) (.slice pa pn pc) (.slice ra rn rc) 31
  obtain ⟨c0, c1, c2, _⟩ := id b0
  have hn1 : ¬ k + (totPl ps : Int) < 0 := by omega
  have hn2 : ¬ k + (totPl ps : Int) + (rq.length : Int) < 0 := by omega
  go_enter Tryz.func16, Tryz.ntmps16
  go_wp2_with fail
  refine (heldPlayerS_any _ ps k _ (hps.keep k0) hk hk').mono ?_
  rintro e w1 ⟨_, rfl, rfl, k1⟩
  have b0 := b0.keep k1
  have kk := k0.keep k1
  clear c0 c1 c2
  obtain ⟨c0, c1, c2, _⟩ := id b0
  go_wp2_with fail
  refine (heldIntS_any No _ rq.length (k + totPl ps) w1 (hrq.keep kk) (by omega)).mono ?_
  rintro e w2 ⟨rfl, rfl⟩
  go_wp2_with fail
  go_ret
  exact ⟨_, rfl, rfl, kk⟩
end Go.Proofs.YtodnkkmjjlfoiaaGreat

/- an operation of a region whose order is drawn, taken first, where operation k waits for it by a chain of others -/
namespace Go.Proofs.YtodnkkmjjlfoiaaGreat
open Go.RowKit

theorem drewN0 (w : World) : Chg No w w.drew := (Chg.refl No w).drew
section
variable {P : Program} {ops : Array Oper} {Q : Exit → Act → World → Prop} {md : Region.Mode} {S : World → Prop}
/-- all of B wait, one by another, for i -/
def chainB (md : Region.Mode) (ops : Array Oper) (listed : Array Bool) (B : List Nat) (i : Nat) : Bool := B.all fun b => !listed.getD b true && (i :: B).any (fun c => Region.waitsFor md ops b c) && decide (b ≠ i)
theorem wpAnyK_firstT {k i : Nat} {oi : Oper} {v : Value} (B : List Nat) (hi : ops[i]? = some oi) (hsel : ∀ (j : Nat) (o : Oper) cs b, ops[j]? = some o → o.op ≠ .select cs b)
    (hQ : ∀ c a w, Q (.panic c) (a.put oi.dst v) w → Q (.panic c) a w) (hB : ∀ b ∈ B, b ≠ i ∧ ∃ c, (c = i ∨ c ∈ B) ∧ Region.waitsFor md ops b c = true) (hkB : k ∈ B) :
    ∀ (f : Nat) (listed : Array Bool) (a : Act) (w : World),
      (∀ j oj, ops[j]? = some oj → j ≠ i → listed.getD j true = false → (∀ e ∈ oj.after, Region.binds md e = true → e.on ≠ i) → oi.apart ops oj = true) →
      i ∈ Region.ready md ops listed → (∀ b ∈ B, listed.getD b true = false) → YieldsIf P ops S oi v a → S w →
      wpAnyK P md ops Q S k f (listed.setIfInBounds i true) (a.put oi.dst v) w → wpAnyK P md ops Q S k (f + 1) listed a w := by
  intro f
  induction f with
  | zero =>
    intro listed a w _ hr hl hy hS H
    refine ⟨fun h => (by rw [h] at hr; cases hr), fun j hj => ?_⟩
    by_cases hji : j = i
    · subst hji; exact hy.wpOp hi hS ⟨fun _ => hS, H⟩
    · have := ready_mono hj hji
      rw [H.1] at this
      cases this
  | succ f ih =>
    intro listed a w hfree hr hl hy hS H
    refine ⟨fun h => (by rw [h] at hr; cases hr), fun j hj => ?_⟩
    by_cases hji : j = i
    · subst hji; exact hy.wpOp hi hS ⟨fun _ => hS, H⟩
    · have hun : listed.getD i false = false := getD_both (mem_ready.1 hr).1
      have hjB : j ∉ B := fun hjB => by
        obtain ⟨_, oj, hoj, hall⟩ := mem_ready.1 hj
        obtain ⟨_, c, hc, hw⟩ := hB j hjB
        obtain ⟨oj', hoj', e, he, hb, hon⟩ := Region.waitsFor_spec hw
        have : oj' = oj := Option.some.inj (hoj'.symm.trans hoj)
        subst this
        have h1 := hall e he hb
        have hcu : listed.getD c false = false := by
          rcases hc with rfl | hc
          · exact hun
          · exact getD_both (hl c hc)
        rw [hon, hcu] at h1
        cases h1
      have hki : k ≠ i := (hB k hkB).1
      have hjk : j ≠ k := fun e => hjB (e ▸ hkB)
      have h1 := H.2 j (ready_mono hj hji)
      obtain ⟨hjun, oj, hoj, hall⟩ := mem_ready.1 hj
      have hnot : ∀ e ∈ oj.after, Region.binds md e = true → e.on ≠ i := fun e he hb heq => by
        have h1 := hall e he hb
        rw [heq, hun] at h1
        cases h1
      have h2 := wpOp_putIf hoj (hfree j oj hoj hji hjun hnot) (fun cs b => hsel i oi cs b hi) (fun cs b => hsel j oj cs b hoj) hQ hy h1
      have hl' : ∀ b ∈ B, (listed.setIfInBounds j true).getD b true = false := fun b hb => (getD_set_ne true (show j ≠ b from fun e => hjB (by rw [e]; exact hb))).trans (hl b hb)
      have hl2 : ((listed.setIfInBounds i true).setIfInBounds j true).getD k true = false := by rw [getD_set_ne true hjk, getD_set_ne true (Ne.symm hki)]; exact hl k hkB
      refine wpOp_mono (fun a' w' h3 => ⟨fun _ => h3.2.1 hl2, ih (listed.setIfInBounds j true) a' w' (fun m om hm hmi hmu hno => hfree m om hm hmi (getD_set_in hmu) hno) (ready_mono hr (Ne.symm hji)) hl' h3.1 (h3.2.1 hl2) ?_⟩) h2
      rw [Array.setIfInBounds_comm _ _ hji]
      exact h3.2.2
/-- all that wait for i, one by another -/
def waitersB (md : Region.Mode) (ops : Array Oper) (i : Nat) : List Nat := (List.range ops.size).foldl (fun B b => if (i :: B).any (fun c => Region.waitsFor md ops b c) && decide (b ≠ i) then b :: B else B) []
/-- take number i first; k waits for it, by a chain of others -/
theorem wpAnyK_takeT (i : Nat) {k : Nat} {oi : Oper} (v : Value) {f : Nat} {listed : Array Bool} {a : Act} {w : World} (hi : ops[i]? = some oi)
    (hB : (Region.noSelect ops && Region.free md ops listed i && (Region.ready md ops listed).contains i && chainB md ops listed (waitersB md ops i) i && (waitersB md ops i).contains k) = true)
    (hQ : ∀ c a w, Q (.panic c) (a.put oi.dst v) w → Q (.panic c) a w) (hS : S w) (hg : oi.guard = none) (hy : ∀ w, S w → (execOp a.eval oi).run P w = .ok (.value v) w)
    (h : wpAnyK P md ops Q S k f (listed.setIfInBounds i true) (a.put oi.dst v) w) : wpAnyK P md ops Q S k (f + 1) listed a w := by
  simp only [Bool.and_eq_true] at hB
  obtain ⟨⟨⟨⟨h1, h2⟩, h3⟩, h4⟩, h5⟩ := hB
  simp only [chainB, List.all_eq_true, Bool.and_eq_true, Bool.not_eq_true', decide_eq_true_eq, List.any_eq_true] at h4
  refine wpAnyK_firstT (waitersB md ops i) hi (Region.noSelect_spec h1) hQ (fun b hb => ?_) (by simpa using h5) f listed a w (Region.free_spec hi h2) (by simpa using h3) (fun b hb => (h4 b hb).1.1) (.inl ⟨by simp [Region.wanted, hg], hy⟩) hS h
  obtain ⟨⟨_, c, hc, hw⟩, hne⟩ := h4 b hb
  exact ⟨hne, c, by simpa using hc, hw⟩
end
end Go.Proofs.YtodnkkmjjlfoiaaGreat
