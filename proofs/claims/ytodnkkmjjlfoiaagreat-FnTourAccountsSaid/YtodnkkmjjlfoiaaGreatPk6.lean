import Derived.Test.YtodnkkmjjlfoiaaGreatPk5
import Derived.Test.YtodnkkmjjlfoiaaGreatO
import Derived.Test.YtodnkkmjjlfoiaaGreatPk1
import Derived.Test.YtodnkkmjjlfoiaaGreatCd
/- a Player, both sides -/
namespace Go.Proofs.YtodnkkmjjlfoiaaGreat
open Go.RowKit

/-- a Player in memory -/
structure Box7 (w : World) (b : Nat) (v0 v1 v2 v3 v4 v5 v6 : Value) : Prop where
  c0 : w.cell? ⟨b, 0, none⟩ = some v0
  c1 : w.cell? ⟨b, 1, none⟩ = some v1
  c2 : w.cell? ⟨b, 2, none⟩ = some v2
  c3 : w.cell? ⟨b, 3, none⟩ = some v3
  c4 : w.cell? ⟨b, 4, none⟩ = some v4
  c5 : w.cell? ⟨b, 5, none⟩ = some v5
  c6 : w.cell? ⟨b, 6, none⟩ = some v6
  fr : ∀ o, w.frozen? ⟨b, o, none⟩ = false
theorem Box7.lt {w : World} {b : Nat} {v0 v1 v2 v3 v4 v5 v6 : Value} (h : Box7 w b v0 v1 v2 v3 v4 v5 v6) : b < w.heap.size := World.block_lt_of_cell? w _ h.c0
theorem Box7.step {S : Nat → Prop} {w w' : World} {b : Nat} {v0 v1 v2 v3 v4 v5 v6 : Value} (h : Box7 w b v0 v1 v2 v3 v4 v5 v6) (hc : Chg S w w') (hS : ¬ S b) : Box7 w' b v0 v1 v2 v3 v4 v5 v6 := by
  have hb := h.lt
  exact ⟨(hc.cellD b 0 hb hS).trans h.c0, (hc.cellD b 1 hb hS).trans h.c1, (hc.cellD b 2 hb hS).trans h.c2, (hc.cellD b 3 hb hS).trans h.c3, (hc.cellD b 4 hb hS).trans h.c4, (hc.cellD b 5 hb hS).trans h.c5, (hc.cellD b 6 hb hS).trans h.c6,
    fun o => (World.frozen?_of_block (hc.block b hb hS)).trans (h.fr o)⟩
theorem Box7.keep {w w' : World} {b : Nat} {v0 v1 v2 v3 v4 v5 v6 : Value} (h : Box7 w b v0 v1 v2 v3 v4 v5 v6) (hc : Chg No w w') : Box7 w' b v0 v1 v2 v3 v4 v5 v6 := h.step hc (fun e => e)
theorem Box7.new (w : World) (v0 v1 v2 v3 v4 v5 v6 : Value) (t : TypeId) : Box7 (w.alloc (.cells #[v0, v1, v2, v3, v4, v5, v6] t)) w.heap.size v0 v1 v2 v3 v4 v5 v6 := by
  refine ⟨?_, ?_, ?_, ?_, ?_, ?_, ?_, fun o => World.frozen?_alloc_new _ _ _ _⟩ <;> (rw [World.cell?_alloc_new]; rfl)
theorem Box7.at {w : World} {b n : Nat} {v0 v1 v2 v3 v4 v5 v6 : Value} (h : Box7 w b v0 v1 v2 v3 v4 v5 v6) (e : b = n) : Box7 w n v0 v1 v2 v3 v4 v5 v6 := e ▸ h
theorem Box7.far {w : World} {b : Nat} {v0 v1 v2 v3 v4 v5 v6 : Value} (h : Box7 w b v0 v1 v2 v3 v4 v5 v6) (p : Addr) (x : Value) (hp : p.block ≠ b) : Box7 (w.setCell p x) b v0 v1 v2 v3 v4 v5 v6 :=
  h.step (S := fun k => k = p.block) ((Chg.refl (fun k => k = p.block) w).setCell (p := p) (fun _ => rfl) x) (fun e => hp e.symm)
theorem Chg.put7 {S : Nat → Prop} {w0 wr : World} (h : Chg S w0 wr) {b : Nat} (hb : b < w0.heap.size → S b) (x0 x1 x2 x3 x4 x5 x6 : Value) :
    Chg S w0 (((((((wr.setCell ⟨b, 0, none⟩ x0).setCell ⟨b, 1, none⟩ x1).setCell ⟨b, 2, none⟩ x2).setCell ⟨b, 3, none⟩ x3).setCell ⟨b, 4, none⟩ x4).setCell ⟨b, 5, none⟩ x5).setCell ⟨b, 6, none⟩ x6) :=
  (((((((h.setCell (p := ⟨b, 0, none⟩) hb x0).setCell (p := ⟨b, 1, none⟩) hb x1).setCell (p := ⟨b, 2, none⟩) hb x2).setCell (p := ⟨b, 3, none⟩) hb x3).setCell (p := ⟨b, 4, none⟩) hb x4).setCell (p := ⟨b, 5, none⟩) hb x5).setCell (p := ⟨b, 6, none⟩) hb x6)
theorem Box7.put7 {w : World} {b : Nat} {v0 v1 v2 v3 v4 v5 v6 : Value} (h : Box7 w b v0 v1 v2 v3 v4 v5 v6) (x0 x1 x2 x3 x4 x5 x6 : Value) :
    Box7 (((((((w.setCell ⟨b, 0, none⟩ x0).setCell ⟨b, 1, none⟩ x1).setCell ⟨b, 2, none⟩ x2).setCell ⟨b, 3, none⟩ x3).setCell ⟨b, 4, none⟩ x4).setCell ⟨b, 5, none⟩ x5).setCell ⟨b, 6, none⟩ x6) b x0 x1 x2 x3 x4 x5 x6 := by
  obtain ⟨c0, c1, c2, c3, c4, c5, c6, fr⟩ := h
  have o : ∀ (w : World) (i j : Nat) (x : Value), i ≠ j → (w.setCell ⟨b, i, none⟩ x).cell? ⟨b, j, none⟩ = w.cell? ⟨b, j, none⟩ := fun w i j x hij => World.cell?_setCell_other _ _ _ _ (by simp)
  refine ⟨?_, ?_, ?_, ?_, ?_, ?_, ?_, fun i => ?_⟩
  · rw [o _ 6 0 _ (by omega), o _ 5 0 _ (by omega), o _ 4 0 _ (by omega), o _ 3 0 _ (by omega), o _ 2 0 _ (by omega), o _ 1 0 _ (by omega)]; exact World.cell?_setCell_same _ _ _ c0
  · rw [o _ 6 1 _ (by omega), o _ 5 1 _ (by omega), o _ 4 1 _ (by omega), o _ 3 1 _ (by omega), o _ 2 1 _ (by omega)]; exact World.cell?_setCell_same _ _ _ ((o _ 0 1 _ (by omega)).trans c1)
  · rw [o _ 6 2 _ (by omega), o _ 5 2 _ (by omega), o _ 4 2 _ (by omega), o _ 3 2 _ (by omega)]; exact World.cell?_setCell_same _ _ _ ((o _ 1 2 _ (by omega)).trans ((o _ 0 2 _ (by omega)).trans c2))
  · rw [o _ 6 3 _ (by omega), o _ 5 3 _ (by omega), o _ 4 3 _ (by omega)]; exact World.cell?_setCell_same _ _ _ ((o _ 2 3 _ (by omega)).trans ((o _ 1 3 _ (by omega)).trans ((o _ 0 3 _ (by omega)).trans c3)))
  · rw [o _ 6 4 _ (by omega), o _ 5 4 _ (by omega)]; exact World.cell?_setCell_same _ _ _ ((o _ 3 4 _ (by omega)).trans ((o _ 2 4 _ (by omega)).trans ((o _ 1 4 _ (by omega)).trans ((o _ 0 4 _ (by omega)).trans c4))))
  · rw [o _ 6 5 _ (by omega)]; exact World.cell?_setCell_same _ _ _ ((o _ 4 5 _ (by omega)).trans ((o _ 3 5 _ (by omega)).trans ((o _ 2 5 _ (by omega)).trans ((o _ 1 5 _ (by omega)).trans ((o _ 0 5 _ (by omega)).trans c5)))))
  · exact World.cell?_setCell_same _ _ _ ((o _ 5 6 _ (by omega)).trans ((o _ 4 6 _ (by omega)).trans ((o _ 3 6 _ (by omega)).trans ((o _ 2 6 _ (by omega)).trans ((o _ 1 6 _ (by omega)).trans ((o _ 0 6 _ (by omega)).trans c6))))))
  · simp only [World.frozen?_setCell]; exact fr i
theorem OI.put7 {base : Nat} {wr : World} {v : Value} {l : List Int} (h : OI base wr v l) {b : Nat} (hb : ∀ k, own v k → k ≠ b) (x0 x1 x2 x3 x4 x5 x6 : Value) :
    OI base (((((((wr.setCell ⟨b, 0, none⟩ x0).setCell ⟨b, 1, none⟩ x1).setCell ⟨b, 2, none⟩ x2).setCell ⟨b, 3, none⟩ x3).setCell ⟨b, 4, none⟩ x4).setCell ⟨b, 5, none⟩ x5).setCell ⟨b, 6, none⟩ x6) v l :=
  h.step ((Chg.refl (fun k => k = b) wr).put7 (fun _ => rfl) x0 x1 x2 x3 x4 x5 x6) hb

structure Pl where
  frm : Int
  ca : Ca
  fa : Int
/-- what a Player is that has served a part -/
def servedP (frm p k : Int) (l : List Int) : Pl := ⟨frm, runC (newC p k) l, ((places (newC p k) l).length : Int)⟩
/-- a Player by value -/
def RP (A : Nat → Prop) (w : World) (v : Value) (x : Pl) : Prop :=
  ∃ pv mv, v = .agg #[.int .i64 x.frm, .int .i64 x.ca.pol, .int .i64 x.ca.size, pv, mv, .int .i64 x.ca.hand, .int .i64 x.fa] ∧ RI A w pv x.ca.pages ∧ RI A w mv x.ca.marks
/-- its lists the call's own -/
def RPO (base : Nat) (w : World) (v : Value) (x : Pl) : Prop :=
  ∃ pv mv, v = .agg #[.int .i64 x.frm, .int .i64 x.ca.pol, .int .i64 x.ca.size, pv, mv, .int .i64 x.ca.hand, .int .i64 x.fa] ∧ OI base w pv x.ca.pages ∧ OI base w mv x.ca.marks ∧ ∀ q, own pv q → ¬ own mv q
theorem RPO.read {base : Nat} {w : World} {v : Value} {x : Pl} (h : RPO base w v x) {A : Nat → Prop} (hA : ∀ q, base ≤ q → ¬ A q) : RP A w v x := by
  obtain ⟨pv, mv, rfl, h1, h2, _⟩ := h
  exact ⟨pv, mv, rfl, h1.read (fun q hq => hA q (h1.lt q hq).1), h2.read (fun q hq => hA q (h2.lt q hq).1)⟩
theorem RPO.keep {base : Nat} {w w' : World} {v : Value} {x : Pl} (h : RPO base w v x) (hc : Chg No w w') : RPO base w' v x := by
  obtain ⟨pv, mv, rfl, h1, h2, h3⟩ := h
  exact ⟨pv, mv, rfl, h1.keep hc, h2.keep hc, h3⟩
theorem RPO.weak {base base' : Nat} {w : World} {v : Value} {x : Pl} (h : RPO base w v x) (hb : base' ≤ base) : RPO base' w v x := by
  obtain ⟨pv, mv, rfl, h1, h2, h3⟩ := h
  exact ⟨pv, mv, rfl, h1.weak hb, h2.weak hb, h3⟩
theorem RP.keep {A : Nat → Prop} {w w' : World} {v : Value} {x : Pl} (h : RP A w v x) (hc : Chg No w w') : RP A w' v x := by
  obtain ⟨pv, mv, rfl, h1, h2⟩ := h
  exact ⟨pv, mv, rfl, h1.keep hc, h2.keep hc⟩
theorem RP.cache {A : Nat → Prop} {w : World} {x : Pl} {x0 x1 x2 pv mv x5 x6 : Value} (h : RP A w (.agg #[x0, x1, x2, pv, mv, x5, x6]) x) : RC A w (.agg #[x1, x2, pv, mv, x5]) x.ca := by
  obtain ⟨pv', mv', e, h1, h2⟩ := h
  simp only [Value.agg.injEq, Array.mk.injEq, List.cons.injEq, and_true] at e
  obtain ⟨_, rfl, rfl, rfl, rfl, rfl, _⟩ := e
  exact ⟨_, _, rfl, h1, h2⟩

set_option maxRecDepth 100000 in
set_option maxHeartbeats 2000000 in
theorem playerOf_any (frm p k : Int) (rv : Value) (l : List Int) (w : World) (hr : RI No w rv l) (hok0 : Ok (newC p k)) :
    Calls Tryz.prog 93 #[.int .i64 frm, .int .i64 p, .int .i64 k, rv] w (Ret fun r w' => RPO w.heap.size w' r (servedP frm p k l) ∧ Chg No w w') := by
  obtain ⟨ra, rc, rfl, hcap, hmax, hlen, _, hc⟩ := id hr
  have HC0 := Lib.hid hc
  clear hc
  have b70 := (Box7.new w (.int .i64 0) (.int .i64 0) (.int .i64 0) (.slice none 0 0) (.slice none 0 0) (.int .i64 0) (.int .i64 0) 69)
  have k70 := (Chg.refl No w).alloc (.cells #[.int .i64 0, .int .i64 0, .int .i64 0, .slice none 0 0, .slice none 0 0, .int .i64 0, .int .i64 0] 69)
  have z70 : (w.alloc (.cells #[.int .i64 0, .int .i64 0, .int .i64 0, .slice none 0 0, .slice none 0 0, .int .i64 0, .int .i64 0] 69)).heap.size = w.heap.size + 1 := by simp
  go_enter Tryz.func93, Tryz.ntmps93
  go_wp2_with fail
  have nn : ∀ q, ¬ own (.slice none 0 0) q := fun q h => by simp [own, Value.ownBlock] at h
  have kal := k70.alloc (.cells #[.int .i64 p, .int .i64 k, .slice none 0 0, .slice none 0 0, .int .i64 0] 67)
  have kb := (Chg.refl No (w.alloc (.cells #[.int .i64 0, .int .i64 0, .int .i64 0, .slice none 0 0, .slice none 0 0, .int .i64 0, .int .i64 0] 69))).alloc (.cells #[.int .i64 p, .int .i64 k, .slice none 0 0, .slice none 0 0, .int .i64 0] 67)
  have mc : MC (w.heap.size + 2) ((w.alloc (.cells #[.int .i64 0, .int .i64 0, .int .i64 0, .slice none 0 0, .slice none 0 0, .int .i64 0, .int .i64 0] 69)).alloc (.cells #[.int .i64 p, .int .i64 k, .slice none 0 0, .slice none 0 0, .int .i64 0] 67)) (w.heap.size + 1) (newC p k) (.slice none 0 0) (.slice none 0 0) :=
    ⟨(Box.new _ _ _ _ _ _ _).at z70, OI.nil _ _, OI.nil _ _, fun q h => (nn q h).elim, nn _, nn _⟩
  have b70 := b70.keep kb
  clear k70 kb
  go_loopw [10, 18] (fun f i wr => ∃ (j : Nat) (pv mv : Value), j ≤ l.length ∧ i = .int .i64 j ∧ f = .int .i64 ((placesTo (newC p k) l j).length : Int) ∧ MC (w.heap.size + 2) wr (w.heap.size + 1) (runC (newC p k) (l.take j)) pv mv ∧
    Box7 wr w.heap.size (.int .i64 0) (.int .i64 0) (.int .i64 0) (.slice none 0 0) (.slice none 0 0) (.int .i64 0) (.int .i64 0) ∧ Chg No w wr) (fun _ i _ => l.length - (intOf i).toNat)
  case atStart => exact ⟨0, _, _, Nat.zero_le _, rfl, rfl, mc, b70, kal⟩
  case round =>
    clear mc b70 kal z70
    obtain ⟨j, pv', mv', hj, rfl, rfl, hM, hb1, hch⟩ := hrel
    obtain ⟨ck, hck⟩ : ∃ ck, runC (newC p k) (l.take j) = ck := ⟨_, rfl⟩
    have hokk : Ok ck := hck ▸ ok_run hok0 _
    have hsz := hM.box.lt
    have hf : ∀ q, foot (w.heap.size + 1) pv' mv' q → w.heap.size < q := fun q hq => by
      rcases hq with rfl | hq | hq
      · omega
      · have := (hM.pages.lt q hq).1; omega
      · have := (hM.marks.lt q hq).1; omega
    by_cases hlt : j < l.length
    · rw [hck] at hM
      obtain ⟨b, off, rfl, _, hb, hcell⟩ := HC0.out (by intro e; simp [e] at hlt)
      have hrun := runC_snoc (newC p k) l j hlt
      rw [hck] at hrun
      obtain ⟨y, hy⟩ : ∃ y, l[j] = y := ⟨_, rfl⟩
      have hcl := (hch.cellD b (off + j) hb (fun e => e)).trans (hcell j hlt)
      have hgy : l.getD j 0 = y := by rw [← hy, List.getD_eq_getElem?_getD, List.getElem?_eq_getElem hlt]; rfl
      rw [hgy] at hcl
      rw [hy] at hrun
      have hpl : placesTo (newC p k) l (j + 1) = if hasB ck.pages y then placesTo (newC p k) l j else placesTo (newC p k) l j ++ [(j : Int)] := by
        show (if hasB (runC (newC p k) (l.take j)).pages (l.getD j 0) then _ else _) = _
        rw [hck, hgy]
      have hple := placesTo_le (newC p k) l j
      have HR := Lib.hid hrun
      have HP := Lib.hid hpl
      have hj0 : (0 : Int) ≤ (j : Int) := Int.natCast_nonneg _
      have hj1 : (j : Int) < (l.length : Int) := by omega
      have hw1 : IntKind.i64.wrap ((j : Int) + 1) = (j : Int) + 1 := IntWalk.i64_in _ (by omega)
      have hw2 : IntKind.i64.wrap (((placesTo (newC p k) l j).length : Int) + 1) = ((placesTo (newC p k) l j).length : Int) + 1 := IntWalk.i64_in _ (by omega)
      clear hcell hrun hpl hple hck hgy hy
      go_wp2_with fail
      refine (step_any (w.heap.size + 2) (w.heap.size + 1) ck y pv' mv' wr hM (by omega) hokk).mono ?_
      rintro e w3 ⟨_, rfl, rfl, pv3, mv3, mc3, k3, f3⟩
      have hb3 := hb1.step k3 (fun hq => by have := hf _ hq; omega)
      have hch3 := hch.step k3 (fun q hq hl => by have := hf q hq; omega)
      rw [← HR.out] at mc3
      clear hM hb1 hch k3 f3 hcl hf hsz
      cases hh : hasB ck.pages y
      · have HL : Hid ((placesTo (newC p k) l (j + 1)).length = (placesTo (newC p k) l j).length + 1) := Lib.hid (by rw [HP.out, hh]; simp)
        simp only [Bool.not_false]
        go_wp2_with fail
        go_roundw
        case measure => simp [intOf]; omega
        case rel => exact ⟨j + 1, pv3, mv3, by omega, by go_num, by rw [HL.out]; go_num, mc3, hb3, hch3⟩
      · have HL : Hid ((placesTo (newC p k) l (j + 1)).length = (placesTo (newC p k) l j).length) := Lib.hid (by rw [HP.out, hh]; simp)
        simp only [Bool.not_true]
        go_wp2_with fail
        go_roundw
        case measure => simp [intOf]; omega
        case rel => exact ⟨j + 1, pv3, mv3, by omega, by go_num, by rw [HL.out], mc3, hb3, hch3⟩
    · have hjl : j = l.length := by omega
      subst hjl
      rw [List.take_length] at hM hck
      obtain ⟨a4, n4, q4, rfl⟩ := hM.pages.shape
      obtain ⟨a5, n5, q5, rfl⟩ := hM.marks.shape
      obtain ⟨c0, c1, c2, c3, c4, fr⟩ := id hM.box
      obtain ⟨cc, hcc⟩ : ∃ cc, runC (newC p k) l = cc := ⟨_, rfl⟩
      rw [hcc] at hM c0 c1 c4
      obtain ⟨np, hnp⟩ : ∃ np, ((placesTo (newC p k) l l.length).length : Int) = np := ⟨_, rfl⟩
      have HSV : Hid (servedP frm p k l = ⟨frm, cc, np⟩) := Lib.hid (by rw [servedP, hcc, places, hnp])
      clear hck hokk hcc
      rw [hnp]
      clear hnp
      go_wp2_with fail
      refine (ownCache_any No _ cc wr ⟨_, _, rfl, hM.pages.readNo, hM.marks.readNo⟩).mono ?_
      rintro e w4 ⟨v4, rfl, o4, k4⟩
      have hl3 := hb1.lt
      have B1 := hb1.keep k4
      have hk := hch.keep k4
      have o4' := o4
      obtain ⟨xp, xm, rfl, hxp, hxm, hxa⟩ := id o4
      obtain ⟨xa, xn, xc, rfl⟩ := hxp.shape
      obtain ⟨ya, yn, yc, rfl⟩ := hxm.shape
      clear c0 c1 c2 c3 c4 fr hM hb1 hch hf
      obtain ⟨s0, s1, s2, s3, s4, s5, s6, sf⟩ := id B1
      have sf0 := sf 0
      have sf1 := sf 1
      have sf2 := sf 2
      have sf3 := sf 3
      have sf4 := sf 4
      have sf5 := sf 5
      have sf6 := sf 6
      clear sf
      go_wp2_with fail
      obtain ⟨z0, z1, z2, z3, z4, z5, z6, _⟩ := B1.put7 (.int .i64 frm) (.int .i64 cc.pol) (.int .i64 cc.size) (.slice xa xn xc) (.slice ya yn yc) (.int .i64 cc.hand) (.int .i64 np)
      refine bodyPost_ret (v := .agg #[.int .i64 frm, .int .i64 cc.pol, .int .i64 cc.size, .slice xa xn xc, .slice ya yn yc, .int .i64 cc.hand, .int .i64 np]) (by simp [results, Tryz.results93, go_sem, z0, z1, z2, z3, z4, z5, z6]) rfl ?_
      refine ⟨_, rfl, ?_, hk.put7 (b := w.heap.size) (fun h => by omega) _ _ _ _ _ _ _⟩
      rw [HSV.out]
      exact ⟨_, _, rfl, (hxp.put7 (fun q hq e => by have := (hxp.lt q hq).1; omega) _ _ _ _ _ _ _).weak (by omega), (hxm.put7 (fun q hq e => by have := (hxm.lt q hq).1; omega) _ _ _ _ _ _ _).weak (by omega), hxa⟩

set_option maxRecDepth 100000 in
set_option maxHeartbeats 2000000 in
theorem l12Player_any (frm p k : Int) (i : Nat) (hfi : frm = (i : Int)) (rv : Value) (l : List Int) (hi : i ≤ l.length) (w : World) (hr : RI No w rv l) (hok0 : Ok (newC p k)) :
    Calls Tryz.prog 80 #[.int .i64 p, .int .i64 k, .int .i64 frm, rv] w (Ret fun r w' => RPO w.heap.size w' r (servedP frm p k (l.drop i)) ∧ Chg No w w') := by
  obtain ⟨ra, rc, rfl, hcap, hmax, hlen, _, _⟩ := id hr
  obtain ⟨xs, hx, hrx⟩ := hr.from i frm hfi hi
  obtain ⟨xa, xn, xc, rfl⟩ := hrx.shape
  have b70 := (Box7.new w (.int .i64 0) (.int .i64 0) (.int .i64 0) (.slice none 0 0) (.slice none 0 0) (.int .i64 0) (.int .i64 0) 69)
  have k70 := (Chg.refl No w).alloc (.cells #[.int .i64 0, .int .i64 0, .int .i64 0, .slice none 0 0, .slice none 0 0, .int .i64 0, .int .i64 0] 69)
  clear hfi hi hcap hmax hlen
  go_enter Tryz.func80, Tryz.ntmps80
  go_wp2_with fail
  refine (l4New_any p k _).mono ?_
  rintro e w1 ⟨v1, rfl, r1, k1⟩
  have r1 := r1 No (Bd.no _)
  obtain ⟨pv, mv, rfl, hp, hmk⟩ := id r1
  obtain ⟨pa, pn, pc, rfl⟩ := hp.shape
  obtain ⟨ma, mn, mc, rfl⟩ := hmk.shape
  simp only [newC] at r1
  have b70 := b70.keep k1
  have k70 := k70.keep k1
  go_wp2_with fail
  simp only [newC]
  have hN := b70.lt
  refine box1 (R := fun W => Code.wp _ _ _ _ W) (fun W kW b9 => ?_)
  refine wp_region_K (S := fun W => Box W w1.heap.size (.int .i64 p) (.int .i64 k) (.slice pa pn pc) (.slice ma mn mc) (.int .i64 0)) (k := 11) (by kernel_rfl) ?_
  have hd := (Chg.refl No W).drew
  have b9 := b9.keep hd
  have b70 := (b70.keep kW).keep hd
  have hk := (k70.keep kW).keep hd
  have r1 := (r1.keep kW).keep hd
  generalize W.drew = W at b9 b70 hk r1 ⊢
  clear hd kW k1 k70 hp hmk
  have hS := b9
  refine wpAnyK_take0 0 (.int .i64 frm) rfl (by kernel_rfl) (fun _ _ _ h => h) hS rfl (by intro w; go_simp) ?_
  simp only [List.getElem_toArray, List.getElem_cons_zero, Act.put, List.setIfInBounds_toArray, List.set_cons_zero, List.set_cons_succ]
  refine wpAnyK_take0 2 (.slice ra l.length rc) rfl (by kernel_rfl) (fun _ _ _ h => h) hS rfl (by intro w; go_simp) ?_
  simp only [List.getElem_toArray, List.getElem_cons_succ, List.getElem_cons_zero, Act.put, List.setIfInBounds_toArray, List.set_cons_zero, List.set_cons_succ]
  refine wpAnyK_take0 3 (.int .i64 frm) rfl (by kernel_rfl) (fun _ _ _ h => h) hS rfl (by intro w; go_simp) ?_
  simp only [List.getElem_toArray, List.getElem_cons_succ, List.getElem_cons_zero, Act.put, List.setIfInBounds_toArray, List.set_cons_zero, List.set_cons_succ]
  refine wpAnyK_take0 4 (.slice xa xn xc) rfl (by kernel_rfl) (fun _ _ _ h => h) hS rfl (by intro w; go_simp) ?_
  simp only [List.getElem_toArray, List.getElem_cons_succ, List.getElem_cons_zero, Act.put, List.setIfInBounds_toArray, List.set_cons_zero, List.set_cons_succ]
  refine wpAnyK_take0 8 (.slice ra l.length rc) rfl (by kernel_rfl) (fun _ _ _ h => h) hS rfl (by intro w; go_simp) ?_
  simp only [List.getElem_toArray, List.getElem_cons_succ, List.getElem_cons_zero, Act.put, List.setIfInBounds_toArray, List.set_cons_zero, List.set_cons_succ]
  refine wpAnyK_take0 9 (.int .i64 frm) rfl (by kernel_rfl) (fun _ _ _ h => h) hS rfl (by intro w; go_simp) ?_
  simp only [List.getElem_toArray, List.getElem_cons_succ, List.getElem_cons_zero, Act.put, List.setIfInBounds_toArray, List.set_cons_zero, List.set_cons_succ]
  refine wpAnyK_take0 10 (.slice xa xn xc) rfl (by kernel_rfl) (fun _ _ _ h => h) hS rfl (by intro w; go_simp) ?_
  simp only [List.getElem_toArray, List.getElem_cons_succ, List.getElem_cons_zero, Act.put, List.setIfInBounds_toArray, List.set_cons_zero, List.set_cons_succ]
  refine wpAnyK_take 7 (.agg #[.int .i64 p, .int .i64 k, .slice pa pn pc, .slice ma mn mc, .int .i64 0]) rfl (by kernel_rfl) (fun _ _ _ h => h) hS rfl (by rintro w ⟨c0, c1, c2, c3, c4, fr⟩; go_simp) ?_
  simp only [List.getElem_toArray, List.getElem_cons_succ, List.getElem_cons_zero, Act.put, List.setIfInBounds_toArray, List.set_cons_zero, List.set_cons_succ]
  refine wpAnyK_1 1 (by kernel_rfl) (wpOpK' rfl rfl ?_)
  intro K hK
  obtain ⟨c0, c1, c2, c3, c4, fr⟩ := id b9
  unfold Oper.wp execOp
  go_simp
  refine hK.out _ _ hS ?_
  clear hK K c0 c1 c2 c3 c4 fr hS
  simp only [List.setIfInBounds_toArray]
  refine wpAnyK_1 5 (by kernel_rfl) (wpOpK' rfl rfl ?_)
  intro K hK
  refine ocall (f := 131) (args := #[.agg #[.int .i64 p, .int .i64 k, .slice pa pn pc, .slice ma mn mc, .int .i64 0], .slice xa xn xc]) (by go_simp) (l4Run_any _ _ (newC p k) _ W r1 (hrx.keep hk) hok0) (fun v3 w3 h3 => hK.out _ _ (b9.keep h3.2) ?_)
  obtain ⟨r3, k3⟩ := h3
  clear hK K
  simp only [List.getElem_toArray, List.getElem_cons_succ, List.getElem_cons_zero, Act.put, List.setIfInBounds_toArray, List.set_cons_zero, List.set_cons_succ]
  have b9 := b9.keep k3
  have b70 := b70.keep k3
  have hk := hk.keep k3
  have r1 := r1.keep k3
  refine wpAnyK_1 6 (by kernel_rfl) (wpOpK' rfl rfl ?_)
  intro K hK
  refine ocall (f := 130) (args := #[v3]) (by go_simp) (l4Copy_any No v3 _ w3 r3) (fun v4 w4 h4 => hK.out _ _ (b9.keep h4.2) ?_)
  obtain ⟨o4, k4⟩ := h4
  clear hK K
  simp only [List.getElem_toArray, List.getElem_cons_succ, List.getElem_cons_zero, Act.put, List.setIfInBounds_toArray, List.set_cons_zero, List.set_cons_succ]
  have hl1 := b70.lt
  have b9 := b9.keep k4
  have b70 := b70.keep k4
  have hk := hk.keep k4
  have r1 := r1.keep k4
  refine wpAnyK_1 11 (by kernel_rfl) (wpOpK' rfl rfl ?_)
  intro K hK
  refine ocall (f := 132) (args := #[.agg #[.int .i64 p, .int .i64 k, .slice pa pn pc, .slice ma mn mc, .int .i64 0], .slice xa xn xc]) (by go_simp) (l4Places_any No _ _ (newC p k) _ w4 r1 (hrx.keep hk) (Bd.no _) hok0) (fun v5 w5 h5 => hK.out _ _ (b9.keep h5.2) ?_)
  obtain ⟨o5, k5⟩ := h5
  clear hK K
  obtain ⟨a5, q5, rfl, _⟩ := o5.view
  simp only [List.getElem_toArray, List.getElem_cons_succ, List.getElem_cons_zero, Act.put, List.setIfInBounds_toArray, List.set_cons_zero, List.set_cons_succ]
  have hS := b9.keep k5
  have b70 := b70.keep k5
  have hk := hk.keep k5
  have o4' := o4.keep k5
  obtain ⟨cc, hcc⟩ : ∃ cc, runC (newC p k) (l.drop i) = cc := ⟨_, rfl⟩
  obtain ⟨np, hnp⟩ : ∃ np, ((places (newC p k) (l.drop i)).length : Int) = np := ⟨_, rfl⟩
  have HSV : Hid (servedP frm p k (l.drop i) = ⟨frm, cc, np⟩) := Lib.hid (by rw [servedP, hcc, hnp])
  rw [hcc] at o4'
  refine wpAnyK_take0 12 (.int .i64 ((places (newC p k) (l.drop i)).length : Int)) rfl (by kernel_rfl) (fun _ _ _ h => h) hS rfl (by intro w; go_simp) ?_
  simp only [List.getElem_toArray, List.getElem_cons_succ, List.getElem_cons_zero, Act.put, List.setIfInBounds_toArray, List.set_cons_zero, List.set_cons_succ]
  rw [hnp]
  obtain ⟨xp, xm, rfl, hxp, hxm, hxa⟩ := o4'
  obtain ⟨ya, yn, yc, rfl⟩ := hxp.shape
  obtain ⟨za, zn, zc, rfl⟩ := hxm.shape
  clear hcc hnp o4 o5 r1 r3
  refine wpAnyK_take0 13 (.agg #[.int .i64 frm, .int .i64 cc.pol, .int .i64 cc.size, .slice ya yn yc, .slice za zn zc, .int .i64 cc.hand, .int .i64 np]) rfl (by kernel_rfl) (fun _ _ _ h => h) hS rfl (by intro w; go_simp) ?_
  simp only [List.getElem_toArray, List.getElem_cons_succ, List.getElem_cons_zero, Act.put, List.setIfInBounds_toArray, List.set_cons_zero, List.set_cons_succ]
  clear hS
  obtain ⟨s0, s1, s2, s3, s4, s5, s6, sf⟩ := id b70
  have sf0 := sf 0
  have sf1 := sf 1
  have sf2 := sf 2
  have sf3 := sf 3
  have sf4 := sf 4
  have sf5 := sf 5
  have sf6 := sf 6
  clear sf
  refine wpAnyK_tailK 14 rfl (by kernel_rfl) ?_
  simp only [List.drop_succ_cons, List.drop_zero]
  go_wp2_with fail
  obtain ⟨z0, z1, z2, z3, z4, z5, z6, _⟩ := b70.put7 (.int .i64 frm) (.int .i64 cc.pol) (.int .i64 cc.size) (.slice ya yn yc) (.slice za zn zc) (.int .i64 cc.hand) (.int .i64 np)
  refine bodyPost_ret (v := .agg #[.int .i64 frm, .int .i64 cc.pol, .int .i64 cc.size, .slice ya yn yc, .slice za zn zc, .int .i64 cc.hand, .int .i64 np]) (by simp [results, Tryz.results80, go_sem, z0, z1, z2, z3, z4, z5, z6]) rfl ?_
  refine ⟨_, rfl, ?_, hk.put7 (b := w.heap.size) (fun h => by omega) _ _ _ _ _ _ _⟩
  rw [HSV.out]
  exact ⟨_, _, rfl, (hxp.put7 (fun q hq e => by have := (hxp.lt q hq).1; omega) _ _ _ _ _ _ _).weak (by omega), (hxm.put7 (fun q hq e => by have := (hxm.lt q hq).1; omega) _ _ _ _ _ _ _).weak (by omega), hxa⟩
end Go.Proofs.YtodnkkmjjlfoiaaGreat

/- whether a Player is what it should be -/
namespace Go.Proofs.YtodnkkmjjlfoiaaGreat
open Go.RowKit

def wantP (x : Pl) (l : List Int) : Pl := servedP x.frm x.ca.pol x.ca.size (l.drop x.frm.toNat)
def playB (x : Pl) (l : List Int) : Bool := inB x.frm 0 l.length && (inB x.ca.pol 1 7 && inB x.ca.size 1 6) && (sameB (wantP x l).ca x.ca && (wantP x l).fa == x.fa)
theorem sameB_comm (a b : Ca) : sameB a b = sameB b a := by
  unfold sameB
  rw [show (a.pol == b.pol) = (b.pol == a.pol) from BEq.comm, show (a.size == b.size) = (b.size == a.size) from BEq.comm, show (a.hand == b.hand) = (b.hand == a.hand) from BEq.comm,
    show (a.pages == b.pages) = (b.pages == a.pages) from BEq.comm, show (a.marks == b.marks) = (b.marks == a.marks) from BEq.comm]
theorem box71 {w : World} {t : TypeId} {x0 x1 x2 x3 x4 x5 x6 : Value} {R : World → Prop} (h : ∀ W, Chg No w W → Box7 W w.heap.size x0 x1 x2 x3 x4 x5 x6 → R W) : R (w.alloc (.cells #[x0, x1, x2, x3, x4, x5, x6] t)) :=
  h _ ((Chg.refl No w).alloc _) (Box7.new w x0 x1 x2 x3 x4 x5 x6 t)

set_option maxRecDepth 100000 in
set_option maxHeartbeats 1000000 in
theorem l12Plays_any (A : Nat → Prop) (v rv : Value) (x : Pl) (l : List Int) (w : World) (h : RP A w v x) (hr : RI No w rv l) :
    Calls Tryz.prog 78 #[v, rv] w (Ret fun r w' => r = .bool (playB x l) ∧ Chg No w w') := by
  obtain ⟨frm, c, fa⟩ := x
  have hv := h
  obtain ⟨pv, mv, rfl, hp, hmk⟩ := h
  simp only at hp hmk hv ⊢
  obtain ⟨pa, pn, pc, rfl⟩ := hp.shape
  obtain ⟨ma, mn, mc, rfl⟩ := hmk.shape
  obtain ⟨ra, rc, rfl, _⟩ := id hr
  have k0 := (Chg.refl No w).alloc (.cells #[.int .i64 frm, .int .i64 c.pol, .int .i64 c.size, .slice pa pn pc, .slice ma mn mc, .int .i64 c.hand, .int .i64 fa] 69)
  cases h1 : inB frm 0 l.length
  · have HP : Hid (playB ⟨frm, c, fa⟩ l = false) := Lib.hid (by simp [playB, h1])
    have H1 := Lib.hid h1
    clear h1
    go_enter Tryz.func78, Tryz.ntmps78
    go_wp2_with fail
    refine (l1In_any _ _ _ _).mono ?_
    rintro e w1 ⟨rfl, rfl⟩
    rw [H1.out]
    go_wp2_with fail
    go_ret
    exact ⟨_, rfl, by rw [HP.out]; rfl, k0⟩
  · cases h2 : (inB c.pol 1 7 && inB c.size 1 6)
    · have HP : Hid (playB ⟨frm, c, fa⟩ l = false) := Lib.hid (by simp only [playB, h2, Bool.and_false, Bool.false_and])
      have H1 := Lib.hid h1
      have H2 := Lib.hid h2
      clear h1 h2
      go_enter Tryz.func78, Tryz.ntmps78
      go_wp2_with fail
      refine (l1In_any _ _ _ _).mono ?_
      rintro e w1 ⟨rfl, rfl⟩
      rw [H1.out]
      go_wp2_with fail
      refine (l4Sizes_any _ _ _).mono ?_
      rintro e w2 ⟨rfl, rfl⟩
      rw [H2.out]
      go_wp2_with fail
      go_ret
      exact ⟨_, rfl, by rw [HP.out]; rfl, k0⟩
    · have HP : Hid (playB ⟨frm, c, fa⟩ l = (sameB (wantP ⟨frm, c, fa⟩ l).ca c && (wantP ⟨frm, c, fa⟩ l).fa == fa)) := Lib.hid (by simp only [playB, h1, h2, Bool.true_and])
      have hb := inB_iff.1 h1
      have hok : Ok (newC c.pol c.size) := by
        simp only [Bool.and_eq_true, inB_iff] at h2
        exact ok_new h2.1 h2.2
      have H1 := Lib.hid h1
      have H2 := Lib.hid h2
      have HF : Hid (frm = (frm.toNat : Int)) := Lib.hid (by omega)
      have HI : Hid (frm.toNat ≤ l.length) := Lib.hid (by omega)
      clear h1 h2 hb
      go_enter Tryz.func78, Tryz.ntmps78
      go_wp2_with fail
      refine box71 (R := fun W => Calls _ _ _ W _) (fun W kW b0 => ?_)
      refine (l1In_any _ _ _ _).mono ?_
      rintro e w1 ⟨rfl, rfl⟩
      rw [H1.out]
      obtain ⟨c0, c1, c2, c3, c4, c5, c6, _⟩ := id b0
      go_wp2_with fail
      refine (l4Sizes_any _ _ _).mono ?_
      rintro e w2 ⟨rfl, rfl⟩
      rw [H2.out]
      go_wp2_with fail
      refine (l12Player_any frm c.pol c.size frm.toNat HF.out _ l HI.out W (hr.keep kW) hok).mono ?_
      rintro e w3 ⟨v3, rfl, o3, k3⟩
      have hwant : wantP ⟨frm, c, fa⟩ l = servedP frm c.pol c.size (l.drop frm.toNat) := rfl
      rw [← hwant] at o3
      obtain ⟨y, hy⟩ : ∃ y, wantP ⟨frm, c, fa⟩ l = y := ⟨_, rfl⟩
      rw [hy] at o3 HP
      clear hwant hy c0 c1 c2 c3 c4 c5 c6
      have b0 := b0.keep k3
      have kk := kW.keep k3
      have o3' := o3
      obtain ⟨xp, xm, rfl, hxp, hxm, hxa⟩ := o3
      obtain ⟨ya, yn, yc, rfl⟩ := hxp.shape
      obtain ⟨za, zn, zc, rfl⟩ := hxm.shape
      have kal := (Chg.refl No w3).alloc (.cells #[.int .i64 y.frm, .int .i64 y.ca.pol, .int .i64 y.ca.size, .slice ya yn yc, .slice za zn zc, .int .i64 y.ca.hand, .int .i64 y.fa] 69)
      have b1 := Box7.new w3 (.int .i64 y.frm) (.int .i64 y.ca.pol) (.int .i64 y.ca.size) (.slice ya yn yc) (.slice za zn zc) (.int .i64 y.ca.hand) (.int .i64 y.fa) 69
      have b0 := b0.keep kal
      have kk := kk.keep kal
      have r3 := (o3'.keep kal).read (A := No) (fun _ _ e => e)
      obtain ⟨c0, c1, c2, c3, c4, c5, c6, _⟩ := id b0
      go_wp2_with fail
      refine (l12SameCache_any No A _ _ y.ca c _ r3.cache (hv.keep kk).cache).mono ?_
      rintro e w4 ⟨_, rfl, rfl, k4⟩
      have b0 := b0.keep k4
      have b1 := b1.keep k4
      have kk := kk.keep k4
      clear c0 c1 c2 c3 c4 c5 c6
      obtain ⟨c0, c1, c2, c3, c4, c5, c6, _⟩ := id b0
      obtain ⟨d0, d1, d2, d3, d4, d5, d6, _⟩ := id b1
      cases hs : sameB y.ca c
      · have HP : Hid (playB ⟨frm, c, fa⟩ l = false) := Lib.hid (by rw [HP.out, hs]; rfl)
        go_wp2_with fail
        go_ret
        exact ⟨_, rfl, by rw [HP.out]; rfl, kk⟩
      · have HP : Hid (playB ⟨frm, c, fa⟩ l = (y.fa == fa)) := Lib.hid (by rw [HP.out, hs]; rfl)
        go_wp2_with fail
        go_ret
        exact ⟨_, rfl, by rw [HP.out]; rfl, kk⟩
end Go.Proofs.YtodnkkmjjlfoiaaGreat

/- Players in a row; a Tournament -/
namespace Go.Proofs.YtodnkkmjjlfoiaaGreat
open Go.RowKit

def dPl : Pl := ⟨0, zeroC, 0⟩
/-- the seven cells of a Player -/
structure Cell7 (w : World) (b o : Nat) (x : Pl) (pv mv : Value) : Prop where
  c0 : w.cell? ⟨b, o, none⟩ = some (.int .i64 x.frm)
  c1 : w.cell? ⟨b, o + 1, none⟩ = some (.int .i64 x.ca.pol)
  c2 : w.cell? ⟨b, o + 2, none⟩ = some (.int .i64 x.ca.size)
  c3 : w.cell? ⟨b, o + 3, none⟩ = some pv
  c4 : w.cell? ⟨b, o + 4, none⟩ = some mv
  c5 : w.cell? ⟨b, o + 5, none⟩ = some (.int .i64 x.ca.hand)
  c6 : w.cell? ⟨b, o + 6, none⟩ = some (.int .i64 x.fa)
theorem Cell7.step {S : Nat → Prop} {w w' : World} {b o : Nat} {x : Pl} {pv mv : Value} (h : Cell7 w b o x pv mv) (hc : Chg S w w') (hb : b < w.heap.size) (hS : ¬ S b) : Cell7 w' b o x pv mv :=
  ⟨(hc.cellD b _ hb hS).trans h.c0, (hc.cellD b _ hb hS).trans h.c1, (hc.cellD b _ hb hS).trans h.c2, (hc.cellD b _ hb hS).trans h.c3, (hc.cellD b _ hb hS).trans h.c4, (hc.cellD b _ hb hS).trans h.c5, (hc.cellD b _ hb hS).trans h.c6⟩
/-- a slice of Players that is read -/
def RPS (A : Nat → Prop) (w : World) (v : Value) (ls : List Pl) : Prop :=
  ∃ a cap, v = .slice a ls.length cap ∧ ls.length ≤ cap ∧ cap ≤ 9223372036854775807 ∧ ls.length ≤ 1048576 ∧ ∃ pf mf : Nat → Value,
    (∀ i, i < ls.length → RI A w (pf i) (ls.getD i dPl).ca.pages ∧ RI A w (mf i) (ls.getD i dPl).ca.marks) ∧
    (ls ≠ [] → ∃ b off, a = some ⟨b, off, none⟩ ∧ ¬ A b ∧ b < w.heap.size ∧ ∀ i, i < ls.length → Cell7 w b (off + i * 7) (ls.getD i dPl) (pf i) (mf i))
theorem RPS.keep {A : Nat → Prop} {w w' : World} {v : Value} {ls : List Pl} (h : RPS A w v ls) (hc : Chg No w w') : RPS A w' v ls := by
  obtain ⟨a, cap, rfl, h1, h2, h3, pf, mf, h4, h5⟩ := h
  refine ⟨a, cap, rfl, h1, h2, h3, pf, mf, fun i hi => ⟨(h4 i hi).1.keep hc, (h4 i hi).2.keep hc⟩, fun hl => ?_⟩
  obtain ⟨b, off, rfl, hA, hb, hcell⟩ := h5 hl
  exact ⟨b, off, rfl, hA, Nat.lt_of_lt_of_le hb hc.size, fun i hi => (hcell i hi).step hc hb (fun e => e)⟩
structure To where
  items : Int
  ps : List Pl
  reqs : List Int
/-- a Tournament by value -/
def RT (A : Nat → Prop) (w : World) (v : Value) (t : To) : Prop := ∃ pv rv, v = .agg #[.int .i64 t.items, pv, rv] ∧ RPS A w pv t.ps ∧ RI A w rv t.reqs
theorem RT.keep {A : Nat → Prop} {w w' : World} {v : Value} {t : To} (h : RT A w v t) (hc : Chg No w w') : RT A w' v t := by
  obtain ⟨pv, rv, rfl, h1, h2⟩ := h
  exact ⟨pv, rv, rfl, h1.keep hc, h2.keep hc⟩
structure Box3 (w : World) (b : Nat) (v0 v1 v2 : Value) : Prop where
  c0 : w.cell? ⟨b, 0, none⟩ = some v0
  c1 : w.cell? ⟨b, 1, none⟩ = some v1
  c2 : w.cell? ⟨b, 2, none⟩ = some v2
  fr : ∀ o, w.frozen? ⟨b, o, none⟩ = false
theorem Box3.lt {w : World} {b : Nat} {v0 v1 v2 : Value} (h : Box3 w b v0 v1 v2) : b < w.heap.size := World.block_lt_of_cell? w _ h.c0
theorem Box3.step {S : Nat → Prop} {w w' : World} {b : Nat} {v0 v1 v2 : Value} (h : Box3 w b v0 v1 v2) (hc : Chg S w w') (hS : ¬ S b) : Box3 w' b v0 v1 v2 := by
  have hb := h.lt
  exact ⟨(hc.cellD b 0 hb hS).trans h.c0, (hc.cellD b 1 hb hS).trans h.c1, (hc.cellD b 2 hb hS).trans h.c2, fun o => (World.frozen?_of_block (hc.block b hb hS)).trans (h.fr o)⟩
theorem Box3.keep {w w' : World} {b : Nat} {v0 v1 v2 : Value} (h : Box3 w b v0 v1 v2) (hc : Chg No w w') : Box3 w' b v0 v1 v2 := h.step hc (fun e => e)
theorem Box3.new (w : World) (v0 v1 v2 : Value) (t : TypeId) : Box3 (w.alloc (.cells #[v0, v1, v2] t)) w.heap.size v0 v1 v2 := by
  refine ⟨?_, ?_, ?_, fun o => World.frozen?_alloc_new _ _ _ _⟩ <;> (rw [World.cell?_alloc_new]; rfl)
theorem box31 {w : World} {t : TypeId} {x0 x1 x2 : Value} {R : World → Prop} (h : ∀ W, Chg No w W → Box3 W w.heap.size x0 x1 x2 → R W) : R (w.alloc (.cells #[x0, x1, x2] t)) :=
  h _ ((Chg.refl No w).alloc _) (Box3.new w x0 x1 x2 t)
def tourB (t : To) : Bool := reqB t.items t.reqs && (decide (t.ps.length ≤ 4) && t.ps.all fun x => playB x t.reqs)
def AllTo (p : Pl → Bool) (ls : List Pl) (j : Nat) : Prop := ∀ i, i < j → p (ls.getD i dPl) = true
theorem AllTo.succ {p : Pl → Bool} {ls : List Pl} {j : Nat} (h : AllTo p ls j) (hj : p (ls.getD j dPl) = true) : AllTo p ls (j + 1) := fun i hi => by
  by_cases e : i = j
  · rw [e]; exact hj
  · exact h i (by omega)
theorem AllTo.full {p : Pl → Bool} {ls : List Pl} (h : AllTo p ls ls.length) : ls.all p = true := by
  rw [List.all_eq_true]
  intro x hx
  obtain ⟨i, hi, rfl⟩ := List.getElem_of_mem hx
  have := h i hi
  rwa [List.getD_eq_getElem?_getD, List.getElem?_eq_getElem hi] at this
theorem all_no {p : Pl → Bool} {ls : List Pl} {j : Nat} (hj : j < ls.length) (h : p (ls.getD j dPl) = false) : ls.all p = false := by
  rw [List.all_eq_false]
  refine ⟨ls[j], List.getElem_mem hj, ?_⟩
  rw [List.getD_eq_getElem?_getD, List.getElem?_eq_getElem hj] at h
  simpa using h

set_option maxRecDepth 100000 in
set_option maxHeartbeats 2000000 in
theorem l12Tour_any (v : Value) (t : To) (w : World) (h : RT No w v t) :
    Calls Tryz.prog 39 #[v] w (Ret fun r w' => r = .bool (tourB t) ∧ Chg No w w') := by
  obtain ⟨it, ps, rq⟩ := t
  obtain ⟨pv, rv, rfl, hps, hrq⟩ := h
  simp only at hps hrq ⊢
  obtain ⟨ra, rc, rfl, _⟩ := id hrq
  obtain ⟨a, cap, rfl, hcap, hmax, hlen, pf, mf, hl, hcl⟩ := id hps
  have k0 := (Chg.refl No w).alloc (.cells #[.int .i64 it, .slice a ps.length cap, .slice ra rq.length rc] 31)
  have b0 := Box3.new w (.int .i64 it) (.slice a ps.length cap) (.slice ra rq.length rc) 31
  cases h1 : reqB it rq
  · have HT : Hid (tourB ⟨it, ps, rq⟩ = false) := Lib.hid (by simp [tourB, h1])
    have H1 : Hid ((inB it 1 8 && decide (rq.length ≤ 60) && belowB it rq) = false) := Lib.hid h1
    clear h1 hl hcl
    go_enter Tryz.func39, Tryz.ntmps39
    go_wp2_with fail
    refine (l3Good_any No _ rq it _ (hrq.keep k0)).mono ?_
    rintro e w1 ⟨rfl, rfl⟩
    rw [H1.out]
    go_wp2_with fail
    go_ret
    exact ⟨_, rfl, by rw [HT.out]; rfl, k0⟩
  · have H1 : Hid ((inB it 1 8 && decide (rq.length ≤ 60) && belowB it rq) = true) := Lib.hid h1
    by_cases h4 : ps.length ≤ 4
    · have HT : Hid (tourB ⟨it, ps, rq⟩ = ps.all fun x => playB x rq) := Lib.hid (by simp [tourB, h1, h4])
      have h4i : ¬ (4 : Int) < (ps.length : Int) := by omega
      have HL := Lib.hid hl
      have HC := Lib.hid hcl
      clear h1 h4 hl hcl
      go_enter Tryz.func39, Tryz.ntmps39
      go_wp2_with fail
      refine (l3Good_any No _ rq it _ (hrq.keep k0)).mono ?_
      rintro e w1 ⟨rfl, rfl⟩
      rw [H1.out]
      go_wp2_with fail
      go_loopw [3] (fun i wr => ∃ j : Nat, j ≤ ps.length ∧ i = .int .i64 j ∧ Hid (AllTo (fun x => playB x rq) ps j) ∧ Box3 wr w.heap.size (.int .i64 it) (.slice a ps.length cap) (.slice ra rq.length rc) ∧ Chg No w wr) (fun i _ => ps.length - (intOf i).toNat)
      case atStart => exact ⟨0, Nat.zero_le _, rfl, Lib.hid (fun i hi => absurd hi (Nat.not_lt_zero _)), b0, k0⟩
      case round =>
        clear b0 k0
        obtain ⟨j, hj, rfl, HA, hb3, hch⟩ := hrel
        by_cases hlt : j < ps.length
        · obtain ⟨b, off, rfl, _, hb, hcell⟩ := HC.out (by intro e; simp [e] at hlt)
          have h7 := hcell j hlt
          obtain ⟨hpj, hmj⟩ := HL.out j hlt
          have hno := all_no (p := fun x => playB x rq) hlt
          have hsu := HA.out.succ (p := fun x => playB x rq)
          obtain ⟨y, hy⟩ : ∃ y, ps.getD j dPl = y := ⟨_, rfl⟩
          rw [hy] at h7 hpj hmj hno hsu
          have HN := Lib.hid hno
          have HS := Lib.hid hsu
          clear hcell hno hsu hy
          have hj0 : (0 : Int) ≤ (j : Int) := Int.natCast_nonneg _
          have hj1 : (j : Int) < (ps.length : Int) := by omega
          have hw1 : IntKind.i64.wrap ((j : Int) + 1) = (j : Int) + 1 := IntWalk.i64_in _ (by omega)
          obtain ⟨pj, hpe⟩ : ∃ pj, pf j = pj := ⟨_, rfl⟩
          obtain ⟨mj, hme⟩ : ∃ mj, mf j = mj := ⟨_, rfl⟩
          rw [hpe] at hpj h7
          rw [hme] at hmj h7
          clear hpe hme
          obtain ⟨ya, yn, yc, rfl⟩ := hpj.shape
          obtain ⟨za, zn, zc, rfl⟩ := hmj.shape
          obtain ⟨C, hC1, hC2⟩ : ∃ C : World → Prop, (∀ W, C W → Box3 W w.heap.size (.int .i64 it) (.slice (some ⟨b, off, none⟩) ps.length cap) (.slice ra rq.length rc) ∧ Chg No w W) ∧
              (∀ W, Box3 W w.heap.size (.int .i64 it) (.slice (some ⟨b, off, none⟩) ps.length cap) (.slice ra rq.length rc) → Chg No w W → C W) := ⟨_, fun _ h => h, fun _ h h' => ⟨h, h'⟩⟩
          have HCELL : Hid (∀ W, C W → W.cell? ⟨w.heap.size, 0, none⟩ = some (.int .i64 it) ∧ W.cell? ⟨w.heap.size, 1, none⟩ = some (.slice (some ⟨b, off, none⟩) ps.length cap) ∧ W.cell? ⟨w.heap.size, 2, none⟩ = some (.slice ra rq.length rc) ∧
              W.cell? ⟨b, off + j * 7, none⟩ = some (.int .i64 y.frm) ∧ W.cell? ⟨b, off + j * 7 + 1, none⟩ = some (.int .i64 y.ca.pol) ∧ W.cell? ⟨b, off + j * 7 + 2, none⟩ = some (.int .i64 y.ca.size) ∧ W.cell? ⟨b, off + j * 7 + 3, none⟩ = some (.slice ya yn yc) ∧
              W.cell? ⟨b, off + j * 7 + 4, none⟩ = some (.slice za zn zc) ∧ W.cell? ⟨b, off + j * 7 + 5, none⟩ = some (.int .i64 y.ca.hand) ∧ W.cell? ⟨b, off + j * 7 + 6, none⟩ = some (.int .i64 y.fa) ∧ True) := Lib.hid (fun W hW => by
            obtain ⟨g1, g2⟩ := hC1 W hW
            have g3 := h7.step g2 hb (fun e => e)
            exact ⟨g1.c0, g1.c1, g1.c2, g3.c0, g3.c1, g3.c2, g3.c3, g3.c4, g3.c5, g3.c6, trivial⟩)
          have HK : Hid (∀ W W', C W → Chg No W W' → C W') := Lib.hid (fun W W' hW hk => hC2 W' ((hC1 W hW).1.keep hk) ((hC1 W hW).2.keep hk))
          have HX := Lib.hid hC1
          have hC0 := hC2 _ (hb3.keep (Chg.refl No _).drew) hch.drew
          obtain ⟨c0, c1, c2, _⟩ := id hb3
          clear hC1 hC2 h7
          go_wp2_with fail
          refine wp_region_X C (by kernel_rfl) (by kernel_rfl) hC0 ?_
          clear c0 c1 c2 hC0
          refine wpX_val (.pointer (some ⟨w.heap.size, 1, none⟩)) rfl (by intro W hW; obtain ⟨c0, c1, c2, d0, d1, d2, d3, d4, d5, d6, _⟩ := HCELL.out W hW; go_simp) ?_
          simp only [Act.put, List.setIfInBounds_toArray, List.set_cons_zero, List.set_cons_succ]
          refine wpX_val (.slice (some ⟨b, off, none⟩) ps.length cap) rfl (by intro W hW; obtain ⟨c0, c1, c2, d0, d1, d2, d3, d4, d5, d6, _⟩ := HCELL.out W hW; go_simp) ?_
          simp only [Act.put, List.setIfInBounds_toArray, List.set_cons_zero, List.set_cons_succ]
          refine wpX_val (.int .i64 j) rfl (by intro W hW; obtain ⟨c0, c1, c2, d0, d1, d2, d3, d4, d5, d6, _⟩ := HCELL.out W hW; go_simp) ?_
          simp only [Act.put, List.setIfInBounds_toArray, List.set_cons_zero, List.set_cons_succ]
          refine wpX_val (.pointer (some ⟨b, off + j * 7, none⟩)) rfl (by intro W hW; obtain ⟨c0, c1, c2, d0, d1, d2, d3, d4, d5, d6, _⟩ := HCELL.out W hW; go_simp) ?_
          simp only [Act.put, List.setIfInBounds_toArray, List.set_cons_zero, List.set_cons_succ]
          refine wpX_val (.agg #[.int .i64 y.frm, .int .i64 y.ca.pol, .int .i64 y.ca.size, .slice ya yn yc, .slice za zn zc, .int .i64 y.ca.hand, .int .i64 y.fa]) rfl (by intro W hW; obtain ⟨c0, c1, c2, d0, d1, d2, d3, d4, d5, d6, _⟩ := HCELL.out W hW; go_simp) ?_
          simp only [Act.put, List.setIfInBounds_toArray, List.set_cons_zero, List.set_cons_succ]
          refine wpX_val (.pointer (some ⟨w.heap.size, 2, none⟩)) rfl (by intro W hW; obtain ⟨c0, c1, c2, d0, d1, d2, d3, d4, d5, d6, _⟩ := HCELL.out W hW; go_simp) ?_
          simp only [Act.put, List.setIfInBounds_toArray, List.set_cons_zero, List.set_cons_succ]
          refine wpX_val (.slice ra rq.length rc) rfl (by intro W hW; obtain ⟨c0, c1, c2, d0, d1, d2, d3, d4, d5, d6, _⟩ := HCELL.out W hW; go_simp) ?_
          simp only [Act.put, List.setIfInBounds_toArray, List.set_cons_zero, List.set_cons_succ]
          refine wpX_call (.bool (playB y rq)) (f := 78) (args := #[.agg #[.int .i64 y.frm, .int .i64 y.ca.pol, .int .i64 y.ca.size, .slice ya yn yc, .slice za zn zc, .int .i64 y.ca.hand, .int .i64 y.fa], .slice ra rq.length rc]) rfl (by intro W hW; go_simp)
            (fun W hW => (l12Plays_any No _ _ y rq W ⟨_, _, rfl, hpj.keep (HX.out W hW).2, hmj.keep (HX.out W hW).2⟩ (hrq.keep (HX.out W hW).2)).mono (by rintro e w' ⟨_, rfl, rfl, hk⟩; exact ⟨rfl, HK.out _ _ hW hk⟩)) ?_
          simp only [Act.put, List.setIfInBounds_toArray, List.set_cons_zero, List.set_cons_succ]
          refine wpX_val (.bool !(playB y rq)) rfl (by intro W hW; obtain ⟨c0, c1, c2, d0, d1, d2, d3, d4, d5, d6, _⟩ := HCELL.out W hW; go_simp) ?_
          simp only [Act.put, List.setIfInBounds_toArray, List.set_cons_zero, List.set_cons_succ]
          refine wpX_nil (fun W hW => ?_)
          obtain ⟨g1, g2⟩ := HX.out W hW
          cases hpb : playB y rq
          · simp only [Bool.not_false]
            go_wp2_with fail
            go_ret
            exact ⟨_, rfl, by rw [HT.out, HN.out hpb]; rfl, g2⟩
          · simp only [Bool.not_true]
            go_wp2_with fail
            go_round
            case rel => exact ⟨j + 1, by omega, by go_num, Lib.hid (HS.out hpb), g1, g2⟩
            case measure => simp [intOf]; omega
        · have hjl : j = ps.length := by omega
          subst hjl
          obtain ⟨c0, c1, c2, _⟩ := id hb3
          go_wp2_with fail
          go_ret
          exact ⟨_, rfl, by rw [HT.out, HA.out.full]; rfl, hch⟩
    · have HT : Hid (tourB ⟨it, ps, rq⟩ = false) := Lib.hid (by simp [tourB, h4])
      have h4i : (4 : Int) < (ps.length : Int) := by omega
      clear h1 h4 hl hcl
      go_enter Tryz.func39, Tryz.ntmps39
      go_wp2_with fail
      refine (l3Good_any No _ rq it _ (hrq.keep k0)).mono ?_
      rintro e w1 ⟨rfl, rfl⟩
      rw [H1.out]
      go_wp2_with fail
      go_ret
      exact ⟨_, rfl, by rw [HT.out]; rfl, k0⟩
end Go.Proofs.YtodnkkmjjlfoiaaGreat

/- what the laws' helpers do with a Player -/
namespace Go.Proofs.YtodnkkmjjlfoiaaGreat
open Go.RowKit

theorem Box7.set0 {w : World} {b : Nat} {v0 v1 v2 v3 v4 v5 v6 : Value} (h : Box7 w b v0 v1 v2 v3 v4 v5 v6) (x : Value) : Box7 (w.setCell ⟨b, 0, none⟩ x) b x v1 v2 v3 v4 v5 v6 :=
  ⟨World.cell?_setCell_same _ _ _ h.c0, (World.cell?_setCell_other _ _ _ _ (by simp)).trans h.c1, (World.cell?_setCell_other _ _ _ _ (by simp)).trans h.c2, (World.cell?_setCell_other _ _ _ _ (by simp)).trans h.c3, (World.cell?_setCell_other _ _ _ _ (by simp)).trans h.c4, (World.cell?_setCell_other _ _ _ _ (by simp)).trans h.c5, (World.cell?_setCell_other _ _ _ _ (by simp)).trans h.c6, fun o => (World.frozen?_setCell _ _ _ _).trans (h.fr o)⟩
theorem Box7.set1 {w : World} {b : Nat} {v0 v1 v2 v3 v4 v5 v6 : Value} (h : Box7 w b v0 v1 v2 v3 v4 v5 v6) (x : Value) : Box7 (w.setCell ⟨b, 1, none⟩ x) b v0 x v2 v3 v4 v5 v6 :=
  ⟨(World.cell?_setCell_other _ _ _ _ (by simp)).trans h.c0, World.cell?_setCell_same _ _ _ h.c1, (World.cell?_setCell_other _ _ _ _ (by simp)).trans h.c2, (World.cell?_setCell_other _ _ _ _ (by simp)).trans h.c3, (World.cell?_setCell_other _ _ _ _ (by simp)).trans h.c4, (World.cell?_setCell_other _ _ _ _ (by simp)).trans h.c5, (World.cell?_setCell_other _ _ _ _ (by simp)).trans h.c6, fun o => (World.frozen?_setCell _ _ _ _).trans (h.fr o)⟩
theorem Box7.set2 {w : World} {b : Nat} {v0 v1 v2 v3 v4 v5 v6 : Value} (h : Box7 w b v0 v1 v2 v3 v4 v5 v6) (x : Value) : Box7 (w.setCell ⟨b, 2, none⟩ x) b v0 v1 x v3 v4 v5 v6 :=
  ⟨(World.cell?_setCell_other _ _ _ _ (by simp)).trans h.c0, (World.cell?_setCell_other _ _ _ _ (by simp)).trans h.c1, World.cell?_setCell_same _ _ _ h.c2, (World.cell?_setCell_other _ _ _ _ (by simp)).trans h.c3, (World.cell?_setCell_other _ _ _ _ (by simp)).trans h.c4, (World.cell?_setCell_other _ _ _ _ (by simp)).trans h.c5, (World.cell?_setCell_other _ _ _ _ (by simp)).trans h.c6, fun o => (World.frozen?_setCell _ _ _ _).trans (h.fr o)⟩
theorem Box7.set3 {w : World} {b : Nat} {v0 v1 v2 v3 v4 v5 v6 : Value} (h : Box7 w b v0 v1 v2 v3 v4 v5 v6) (x : Value) : Box7 (w.setCell ⟨b, 3, none⟩ x) b v0 v1 v2 x v4 v5 v6 :=
  ⟨(World.cell?_setCell_other _ _ _ _ (by simp)).trans h.c0, (World.cell?_setCell_other _ _ _ _ (by simp)).trans h.c1, (World.cell?_setCell_other _ _ _ _ (by simp)).trans h.c2, World.cell?_setCell_same _ _ _ h.c3, (World.cell?_setCell_other _ _ _ _ (by simp)).trans h.c4, (World.cell?_setCell_other _ _ _ _ (by simp)).trans h.c5, (World.cell?_setCell_other _ _ _ _ (by simp)).trans h.c6, fun o => (World.frozen?_setCell _ _ _ _).trans (h.fr o)⟩
theorem Box7.set4 {w : World} {b : Nat} {v0 v1 v2 v3 v4 v5 v6 : Value} (h : Box7 w b v0 v1 v2 v3 v4 v5 v6) (x : Value) : Box7 (w.setCell ⟨b, 4, none⟩ x) b v0 v1 v2 v3 x v5 v6 :=
  ⟨(World.cell?_setCell_other _ _ _ _ (by simp)).trans h.c0, (World.cell?_setCell_other _ _ _ _ (by simp)).trans h.c1, (World.cell?_setCell_other _ _ _ _ (by simp)).trans h.c2, (World.cell?_setCell_other _ _ _ _ (by simp)).trans h.c3, World.cell?_setCell_same _ _ _ h.c4, (World.cell?_setCell_other _ _ _ _ (by simp)).trans h.c5, (World.cell?_setCell_other _ _ _ _ (by simp)).trans h.c6, fun o => (World.frozen?_setCell _ _ _ _).trans (h.fr o)⟩
end Go.Proofs.YtodnkkmjjlfoiaaGreat

/- what the laws' helpers do with Players in a row -/
namespace Go.Proofs.YtodnkkmjjlfoiaaGreat
open Go.RowKit

theorem Cell7.row {w : World} {g o : Nat} (x : Pl) (pv mv : Value) (h : ∀ r, r < 7 → ∃ u, w.cell? ⟨g, o + r, none⟩ = some u) : Cell7 (((((((w.setCell ⟨g, o, none⟩ (.int .i64 x.frm)).setCell ⟨g, o + 1, none⟩ (.int .i64 x.ca.pol)).setCell ⟨g, o + 2, none⟩ (.int .i64 x.ca.size)).setCell ⟨g, o + 3, none⟩ pv).setCell ⟨g, o + 4, none⟩ mv).setCell ⟨g, o + 5, none⟩ (.int .i64 x.ca.hand)).setCell ⟨g, o + 6, none⟩ (.int .i64 x.fa)) g o x pv mv := by
  obtain ⟨u0, h0⟩ := h 0 (by omega)
  obtain ⟨u1, h1⟩ := h 1 (by omega)
  obtain ⟨u2, h2⟩ := h 2 (by omega)
  obtain ⟨u3, h3⟩ := h 3 (by omega)
  obtain ⟨u4, h4⟩ := h 4 (by omega)
  obtain ⟨u5, h5⟩ := h 5 (by omega)
  obtain ⟨u6, h6⟩ := h 6 (by omega)
  rw [Nat.add_zero] at h0
  have e : ∀ (w : World) (i j : Nat) (x : Value), i ≠ j → (w.setCell ⟨g, i, none⟩ x).cell? ⟨g, j, none⟩ = w.cell? ⟨g, j, none⟩ := fun w i j x hij => World.cell?_setCell_other _ _ _ _ (by simp <;> omega)
  refine ⟨?_, ?_, ?_, ?_, ?_, ?_, ?_⟩
  · rw [e _ (o + 6) (o) _ (by omega), e _ (o + 5) (o) _ (by omega), e _ (o + 4) (o) _ (by omega), e _ (o + 3) (o) _ (by omega), e _ (o + 2) (o) _ (by omega), e _ (o + 1) (o) _ (by omega)]; exact World.cell?_setCell_same _ _ _ h0
  · rw [e _ (o + 6) (o + 1) _ (by omega), e _ (o + 5) (o + 1) _ (by omega), e _ (o + 4) (o + 1) _ (by omega), e _ (o + 3) (o + 1) _ (by omega), e _ (o + 2) (o + 1) _ (by omega)]; exact World.cell?_setCell_same _ _ _ ((e _ (o) (o + 1) _ (by omega)).trans h1)
  · rw [e _ (o + 6) (o + 2) _ (by omega), e _ (o + 5) (o + 2) _ (by omega), e _ (o + 4) (o + 2) _ (by omega), e _ (o + 3) (o + 2) _ (by omega)]; exact World.cell?_setCell_same _ _ _ ((e _ (o + 1) (o + 2) _ (by omega)).trans ((e _ (o) (o + 2) _ (by omega)).trans h2))
  · rw [e _ (o + 6) (o + 3) _ (by omega), e _ (o + 5) (o + 3) _ (by omega), e _ (o + 4) (o + 3) _ (by omega)]; exact World.cell?_setCell_same _ _ _ ((e _ (o + 2) (o + 3) _ (by omega)).trans ((e _ (o + 1) (o + 3) _ (by omega)).trans ((e _ (o) (o + 3) _ (by omega)).trans h3)))
  · rw [e _ (o + 6) (o + 4) _ (by omega), e _ (o + 5) (o + 4) _ (by omega)]; exact World.cell?_setCell_same _ _ _ ((e _ (o + 3) (o + 4) _ (by omega)).trans ((e _ (o + 2) (o + 4) _ (by omega)).trans ((e _ (o + 1) (o + 4) _ (by omega)).trans ((e _ (o) (o + 4) _ (by omega)).trans h4))))
  · rw [e _ (o + 6) (o + 5) _ (by omega)]; exact World.cell?_setCell_same _ _ _ ((e _ (o + 4) (o + 5) _ (by omega)).trans ((e _ (o + 3) (o + 5) _ (by omega)).trans ((e _ (o + 2) (o + 5) _ (by omega)).trans ((e _ (o + 1) (o + 5) _ (by omega)).trans ((e _ (o) (o + 5) _ (by omega)).trans h5)))))
  · exact World.cell?_setCell_same _ _ _ ((e _ (o + 5) (o + 6) _ (by omega)).trans ((e _ (o + 4) (o + 6) _ (by omega)).trans ((e _ (o + 3) (o + 6) _ (by omega)).trans ((e _ (o + 2) (o + 6) _ (by omega)).trans ((e _ (o + 1) (o + 6) _ (by omega)).trans ((e _ (o) (o + 6) _ (by omega)).trans h6))))))
theorem elPlayers : El 29 69 (.agg #[.int .i64 0, .int .i64 0, .int .i64 0, .slice none 0 0, .slice none 0 0, .int .i64 0, .int .i64 0]) 7 88 := El.mk' Tryz.underlying29 (by kernel_rfl) rfl (by omega)
end Go.Proofs.YtodnkkmjjlfoiaaGreat

/- what the laws' helpers do with a Tournament -/
namespace Go.Proofs.YtodnkkmjjlfoiaaGreat
open Go.RowKit

theorem RPS.step {A T : Nat → Prop} {w w' : World} {v : Value} {ls : List Pl} (h : RPS A w v ls) (hc : Chg T w w') (hT : ∀ k, T k → A k) : RPS A w' v ls := by
  obtain ⟨a, cap, rfl, h1, h2, h3, pf, mf, h4, h5⟩ := h
  refine ⟨a, cap, rfl, h1, h2, h3, pf, mf, fun i hi => ⟨(h4 i hi).1.step hc hT, (h4 i hi).2.step hc hT⟩, fun hl => ?_⟩
  obtain ⟨b, off, rfl, hA, hb, hcell⟩ := h5 hl
  exact ⟨b, off, rfl, hA, Nat.lt_of_lt_of_le hb hc.size, fun i hi => (hcell i hi).step hc hb (fun e => hA (hT b e))⟩
theorem RPS.weak {A B : Nat → Prop} {w : World} {v : Value} {ls : List Pl} (h : RPS A w v ls) (hB : ∀ k, B k → k < w.heap.size → A k) : RPS B w v ls := by
  obtain ⟨a, cap, rfl, h1, h2, h3, pf, mf, h4, h5⟩ := h
  refine ⟨a, cap, rfl, h1, h2, h3, pf, mf, fun i hi => ⟨(h4 i hi).1.weak hB, (h4 i hi).2.weak hB⟩, fun hl => ?_⟩
  obtain ⟨b, off, rfl, hA, hb, hcell⟩ := h5 hl
  exact ⟨b, off, rfl, fun e => hA (hB b e hb), hb, hcell⟩
theorem RPS.shape {A : Nat → Prop} {w : World} {v : Value} {ls : List Pl} (h : RPS A w v ls) : ∃ a n c, v = .slice a n c := by
  obtain ⟨a, cap, rfl, _⟩ := h; exact ⟨_, _, _, rfl⟩
theorem Box3.at {w : World} {b n : Nat} {v0 v1 v2 : Value} (h : Box3 w b v0 v1 v2) (e : b = n) : Box3 w n v0 v1 v2 := e ▸ h
theorem Box3.far {w : World} {b : Nat} {v0 v1 v2 : Value} (h : Box3 w b v0 v1 v2) (p : Addr) (x : Value) (hp : p.block ≠ b) : Box3 (w.setCell p x) b v0 v1 v2 :=
  h.step (S := fun k => k = p.block) ((Chg.refl (fun k => k = p.block) w).setCell (p := p) (fun _ => rfl) x) (fun e => hp e.symm)
theorem Box3.set0 {w : World} {b : Nat} {v0 v1 v2 : Value} (h : Box3 w b v0 v1 v2) (x : Value) : Box3 (w.setCell ⟨b, 0, none⟩ x) b x v1 v2 :=
  ⟨World.cell?_setCell_same _ _ _ h.c0, (World.cell?_setCell_other _ _ _ _ (by simp)).trans h.c1, (World.cell?_setCell_other _ _ _ _ (by simp)).trans h.c2, fun o => (World.frozen?_setCell _ _ _ _).trans (h.fr o)⟩
theorem Box3.set1 {w : World} {b : Nat} {v0 v1 v2 : Value} (h : Box3 w b v0 v1 v2) (x : Value) : Box3 (w.setCell ⟨b, 1, none⟩ x) b v0 x v2 :=
  ⟨(World.cell?_setCell_other _ _ _ _ (by simp)).trans h.c0, World.cell?_setCell_same _ _ _ h.c1, (World.cell?_setCell_other _ _ _ _ (by simp)).trans h.c2, fun o => (World.frozen?_setCell _ _ _ _).trans (h.fr o)⟩
theorem Box3.set2 {w : World} {b : Nat} {v0 v1 v2 : Value} (h : Box3 w b v0 v1 v2) (x : Value) : Box3 (w.setCell ⟨b, 2, none⟩ x) b v0 v1 x :=
  ⟨(World.cell?_setCell_other _ _ _ _ (by simp)).trans h.c0, (World.cell?_setCell_other _ _ _ _ (by simp)).trans h.c1, World.cell?_setCell_same _ _ _ h.c2, fun o => (World.frozen?_setCell _ _ _ _).trans (h.fr o)⟩
theorem boxes33 {w : World} {t t' t'' : TypeId} {x0 x1 x2 y0 y1 y2 z0 z1 z2 : Value} {R : World → Prop} (h : ∀ W, Chg No w W → Box3 W w.heap.size x0 x1 x2 → Box3 W (w.heap.size + 1) y0 y1 y2 → Box3 W (w.heap.size + 1 + 1) z0 z1 z2 → R W) :
    R (((w.alloc (.cells #[x0, x1, x2] t)).alloc (.cells #[y0, y1, y2] t')).alloc (.cells #[z0, z1, z2] t'')) :=
  h _ ((((Chg.refl No w).alloc _).alloc _).alloc _) ((Box3.new w _ _ _ t).keep (((Chg.refl No _).alloc _).alloc _))
    (((Box3.new (w.alloc (.cells #[x0, x1, x2] t)) _ _ _ t').keep ((Chg.refl No _).alloc _)).at (by simp)) ((Box3.new ((w.alloc (.cells #[x0, x1, x2] t)).alloc (.cells #[y0, y1, y2] t')) _ _ _ t'').at (by simp))
theorem boxes32 {w : World} {t t' : TypeId} {x0 x1 x2 y0 y1 y2 : Value} {R : World → Prop} (h : ∀ W, Chg No w W → Box3 W w.heap.size x0 x1 x2 → Box3 W (w.heap.size + 1) y0 y1 y2 → R W) :
    R ((w.alloc (.cells #[x0, x1, x2] t)).alloc (.cells #[y0, y1, y2] t')) :=
  h _ (((Chg.refl No w).alloc _).alloc _) ((Box3.new w _ _ _ t).keep ((Chg.refl No _).alloc _)) ((Box3.new (w.alloc (.cells #[x0, x1, x2] t)) _ _ _ t').at (by simp))

end Go.Proofs.YtodnkkmjjlfoiaaGreat

/- Players in a row of the call's own: copied, marked, looked at -/
namespace Go.Proofs.YtodnkkmjjlfoiaaGreat
open Go.RowKit

theorem Cell7.s0 {w : World} {b o : Nat} {x : Pl} {pv mv : Value} (h : Cell7 w b o x pv mv) (v : Int) : Cell7 (w.setCell ⟨b, o, none⟩ (.int .i64 v)) b o { x with frm := v } pv mv :=
  ⟨World.cell?_setCell_same _ _ _ h.c0, (World.cell?_setCell_other _ _ _ _ (by simp)).trans h.c1, (World.cell?_setCell_other _ _ _ _ (by simp)).trans h.c2, (World.cell?_setCell_other _ _ _ _ (by simp)).trans h.c3, (World.cell?_setCell_other _ _ _ _ (by simp)).trans h.c4, (World.cell?_setCell_other _ _ _ _ (by simp)).trans h.c5, (World.cell?_setCell_other _ _ _ _ (by simp)).trans h.c6⟩
theorem Cell7.s1 {w : World} {b o : Nat} {x : Pl} {pv mv : Value} (h : Cell7 w b o x pv mv) (v : Int) : Cell7 (w.setCell ⟨b, o + 1, none⟩ (.int .i64 v)) b o { x with ca := { x.ca with pol := v } } pv mv :=
  ⟨(World.cell?_setCell_other _ _ _ _ (by simp)).trans h.c0, World.cell?_setCell_same _ _ _ h.c1, (World.cell?_setCell_other _ _ _ _ (by simp)).trans h.c2, (World.cell?_setCell_other _ _ _ _ (by simp)).trans h.c3, (World.cell?_setCell_other _ _ _ _ (by simp)).trans h.c4, (World.cell?_setCell_other _ _ _ _ (by simp)).trans h.c5, (World.cell?_setCell_other _ _ _ _ (by simp)).trans h.c6⟩
theorem Cell7.s2 {w : World} {b o : Nat} {x : Pl} {pv mv : Value} (h : Cell7 w b o x pv mv) (v : Int) : Cell7 (w.setCell ⟨b, o + 2, none⟩ (.int .i64 v)) b o { x with ca := { x.ca with size := v } } pv mv :=
  ⟨(World.cell?_setCell_other _ _ _ _ (by simp)).trans h.c0, (World.cell?_setCell_other _ _ _ _ (by simp)).trans h.c1, World.cell?_setCell_same _ _ _ h.c2, (World.cell?_setCell_other _ _ _ _ (by simp)).trans h.c3, (World.cell?_setCell_other _ _ _ _ (by simp)).trans h.c4, (World.cell?_setCell_other _ _ _ _ (by simp)).trans h.c5, (World.cell?_setCell_other _ _ _ _ (by simp)).trans h.c6⟩
theorem Cell7.s5 {w : World} {b o : Nat} {x : Pl} {pv mv : Value} (h : Cell7 w b o x pv mv) (v : Int) : Cell7 (w.setCell ⟨b, o + 5, none⟩ (.int .i64 v)) b o { x with ca := { x.ca with hand := v } } pv mv :=
  ⟨(World.cell?_setCell_other _ _ _ _ (by simp)).trans h.c0, (World.cell?_setCell_other _ _ _ _ (by simp)).trans h.c1, (World.cell?_setCell_other _ _ _ _ (by simp)).trans h.c2, (World.cell?_setCell_other _ _ _ _ (by simp)).trans h.c3, (World.cell?_setCell_other _ _ _ _ (by simp)).trans h.c4, World.cell?_setCell_same _ _ _ h.c5, (World.cell?_setCell_other _ _ _ _ (by simp)).trans h.c6⟩
theorem Cell7.s6 {w : World} {b o : Nat} {x : Pl} {pv mv : Value} (h : Cell7 w b o x pv mv) (v : Int) : Cell7 (w.setCell ⟨b, o + 6, none⟩ (.int .i64 v)) b o { x with fa := v } pv mv :=
  ⟨(World.cell?_setCell_other _ _ _ _ (by simp)).trans h.c0, (World.cell?_setCell_other _ _ _ _ (by simp)).trans h.c1, (World.cell?_setCell_other _ _ _ _ (by simp)).trans h.c2, (World.cell?_setCell_other _ _ _ _ (by simp)).trans h.c3, (World.cell?_setCell_other _ _ _ _ (by simp)).trans h.c4, (World.cell?_setCell_other _ _ _ _ (by simp)).trans h.c5, World.cell?_setCell_same _ _ _ h.c6⟩

end Go.Proofs.YtodnkkmjjlfoiaaGreat

/- a Tournament of the call's own: copied, marked; a list of [2]int compared, marked, looked at -/
namespace Go.Proofs.YtodnkkmjjlfoiaaGreat
open Go.RowKit

end Go.Proofs.YtodnkkmjjlfoiaaGreat

/- a marked Tournament looked at -/
namespace Go.Proofs.YtodnkkmjjlfoiaaGreat
open Go.RowKit

end Go.Proofs.YtodnkkmjjlfoiaaGreat

/- an operation of a region whose order is drawn, taken first, where operation k waits for it by a chain of others -/
namespace Go.Proofs.YtodnkkmjjlfoiaaGreat
open Go.RowKit

theorem drewN0 (w : World) : Chg No w w.drew := (Chg.refl No w).drew
section
variable {P : Program} {ops : Array Oper} {Q : Exit → Act → World → Prop} {md : Region.Mode} {S : World → Prop}
/-- all of B wait, one by another, for i -/
def chainB (md : Region.Mode) (ops : Array Oper) (listed : Array Bool) (B : List Nat) (i : Nat) : Bool := B.all fun b => !listed.getD b true && (i :: B).any (fun c => Region.waitsFor md ops b c) && decide (b ≠ i)
theorem wpAnyK_firstT {k i : Nat} {oi : Oper} {v : Value} (B : List Nat) (hi : ops[i]? = some oi) (hsel : ∀ (j : Nat) (o : Oper) cs b, ops[j]? = some o → o.op ≠ .select cs b)
    (hQ : ∀ c a w, Q (.panic c) (a.put oi.dst v) w → Q (.panic c) a w) (hB : ∀ b ∈ B, b ≠ i ∧ ∃ c, (c = i ∨ c ∈ B) ∧ Region.waitsFor md ops b c = true) (hkB : k ∈ B) :
    ∀ (f : Nat) (listed : Array Bool) (a : Act) (w : World),
      (∀ j oj, ops[j]? = some oj → j ≠ i → listed.getD j true = false → (∀ e ∈ oj.after, Region.binds md e = true → e.on ≠ i) → oi.apart ops oj = true) →
      i ∈ Region.ready md ops listed → (∀ b ∈ B, listed.getD b true = false) → YieldsIf P ops S oi v a → S w →
      wpAnyK P md ops Q S k f (listed.setIfInBounds i true) (a.put oi.dst v) w → wpAnyK P md ops Q S k (f + 1) listed a w := by
  intro f
  induction f with
  | zero =>
    intro listed a w _ hr hl hy hS H
    refine ⟨fun h => (by rw [h] at hr; cases hr), fun j hj => ?_⟩
    by_cases hji : j = i
    · subst hji; exact hy.wpOp hi hS ⟨fun _ => hS, H⟩
    · have := ready_mono hj hji
      rw [H.1] at this
      cases this
  | succ f ih =>
    intro listed a w hfree hr hl hy hS H
    refine ⟨fun h => (by rw [h] at hr; cases hr), fun j hj => ?_⟩
    by_cases hji : j = i
    · subst hji; exact hy.wpOp hi hS ⟨fun _ => hS, H⟩
    · have hun : listed.getD i false = false := getD_both (mem_ready.1 hr).1
      have hjB : j ∉ B := fun hjB => by
        obtain ⟨_, oj, hoj, hall⟩ := mem_ready.1 hj
        obtain ⟨_, c, hc, hw⟩ := hB j hjB
        obtain ⟨oj', hoj', e, he, hb, hon⟩ := Region.waitsFor_spec hw
        have : oj' = oj := Option.some.inj (hoj'.symm.trans hoj)
        subst this
        have h1 := hall e he hb
        have hcu : listed.getD c false = false := by
          rcases hc with rfl | hc
          · exact hun
          · exact getD_both (hl c hc)
        rw [hon, hcu] at h1
        cases h1
      have hki : k ≠ i := (hB k hkB).1
      have hjk : j ≠ k := fun e => hjB (e ▸ hkB)
      have h1 := H.2 j (ready_mono hj hji)
      obtain ⟨hjun, oj, hoj, hall⟩ := mem_ready.1 hj
      have hnot : ∀ e ∈ oj.after, Region.binds md e = true → e.on ≠ i := fun e he hb heq => by
        have h1 := hall e he hb
        rw [heq, hun] at h1
        cases h1
      have h2 := wpOp_putIf hoj (hfree j oj hoj hji hjun hnot) (fun cs b => hsel i oi cs b hi) (fun cs b => hsel j oj cs b hoj) hQ hy h1
      have hl' : ∀ b ∈ B, (listed.setIfInBounds j true).getD b true = false := fun b hb => (getD_set_ne true (show j ≠ b from fun e => hjB (by rw [e]; exact hb))).trans (hl b hb)
      have hl2 : ((listed.setIfInBounds i true).setIfInBounds j true).getD k true = false := by rw [getD_set_ne true hjk, getD_set_ne true (Ne.symm hki)]; exact hl k hkB
      refine wpOp_mono (fun a' w' h3 => ⟨fun _ => h3.2.1 hl2, ih (listed.setIfInBounds j true) a' w' (fun m om hm hmi hmu hno => hfree m om hm hmi (getD_set_in hmu) hno) (ready_mono hr (Ne.symm hji)) hl' h3.1 (h3.2.1 hl2) ?_⟩) h2
      rw [Array.setIfInBounds_comm _ _ hji]
      exact h3.2.2
/-- all that wait for i, one by another -/
def waitersB (md : Region.Mode) (ops : Array Oper) (i : Nat) : List Nat := (List.range ops.size).foldl (fun B b => if (i :: B).any (fun c => Region.waitsFor md ops b c) && decide (b ≠ i) then b :: B else B) []
/-- take number i first; k waits for it, by a chain of others -/
theorem wpAnyK_takeT (i : Nat) {k : Nat} {oi : Oper} (v : Value) {f : Nat} {listed : Array Bool} {a : Act} {w : World} (hi : ops[i]? = some oi)
    (hB : (Region.noSelect ops && Region.free md ops listed i && (Region.ready md ops listed).contains i && chainB md ops listed (waitersB md ops i) i && (waitersB md ops i).contains k) = true)
    (hQ : ∀ c a w, Q (.panic c) (a.put oi.dst v) w → Q (.panic c) a w) (hS : S w) (hg : oi.guard = none) (hy : ∀ w, S w → (execOp a.eval oi).run P w = .ok (.value v) w)
    (h : wpAnyK P md ops Q S k f (listed.setIfInBounds i true) (a.put oi.dst v) w) : wpAnyK P md ops Q S k (f + 1) listed a w := by
  simp only [Bool.and_eq_true] at hB
  obtain ⟨⟨⟨⟨h1, h2⟩, h3⟩, h4⟩, h5⟩ := hB
  simp only [chainB, List.all_eq_true, Bool.and_eq_true, Bool.not_eq_true', decide_eq_true_eq, List.any_eq_true] at h4
  refine wpAnyK_firstT (waitersB md ops i) hi (Region.noSelect_spec h1) hQ (fun b hb => ?_) (by simpa using h5) f listed a w (Region.free_spec hi h2) (by simpa using h3) (fun b hb => (h4 b hb).1.1) (.inl ⟨by simp [Region.wanted, hg], hy⟩) hS h
  obtain ⟨⟨_, c, hc, hw⟩, hne⟩ := h4 b hb
  exact ⟨hne, c, by simpa using hc, hw⟩
end
end Go.Proofs.YtodnkkmjjlfoiaaGreat
