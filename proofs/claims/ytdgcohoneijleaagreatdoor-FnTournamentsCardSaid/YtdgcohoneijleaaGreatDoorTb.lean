import Derived.Test.YtdgcohoneijleaaGreatDoorPkX11
import Derived.Test.YtdgcohoneijleaaGreatDoorPkX5
set_option maxRecDepth 100000
namespace Go.Proofs.YtdgcohoneijleaaGreatDoor
open Go.RowKit
structure Box7 (w : World) (b : Nat) (v0 v1 v2 v3 v4 v5 v6 : Value) : Prop where
 c0 : w.cell? ⟨b, 0, none⟩ = some v0
 c1 : w.cell? ⟨b, 1, none⟩ = some v1
 c2 : w.cell? ⟨b, 2, none⟩ = some v2
 c3 : w.cell? ⟨b, 3, none⟩ = some v3
 c4 : w.cell? ⟨b, 4, none⟩ = some v4
 c5 : w.cell? ⟨b, 5, none⟩ = some v5
 c6 : w.cell? ⟨b, 6, none⟩ = some v6
 fr : ∀ o, w.frozen? ⟨b, o, none⟩ = false
theorem Box7.lt {w : World} {b : Nat} {v0 v1 v2 v3 v4 v5 v6 : Value} (h : Box7 w b v0 v1 v2 v3 v4 v5 v6) : b < w.heap.size := World.block_lt_of_cell? w _ h.c0
theorem Box7.step {S : Nat → Prop} {w w' : World} {b : Nat} {v0 v1 v2 v3 v4 v5 v6 : Value} (h : Box7 w b v0 v1 v2 v3 v4 v5 v6) (hc : Chg S w w') (hS : ¬ S b) : Box7 w' b v0 v1 v2 v3 v4 v5 v6 := by
 have hb := h.lt
 exact ⟨(hc.cellD b 0 hb hS).trans h.c0, (hc.cellD b 1 hb hS).trans h.c1, (hc.cellD b 2 hb hS).trans h.c2, (hc.cellD b 3 hb hS).trans h.c3, (hc.cellD b 4 hb hS).trans h.c4, (hc.cellD b 5 hb hS).trans h.c5, (hc.cellD b 6 hb hS).trans h.c6,
  fun o => (World.frozen?_of_block (hc.block b hb hS)).trans (h.fr o)⟩
theorem Box7.keep {w w' : World} {b : Nat} {v0 v1 v2 v3 v4 v5 v6 : Value} (h : Box7 w b v0 v1 v2 v3 v4 v5 v6) (hc : Chg No w w') : Box7 w' b v0 v1 v2 v3 v4 v5 v6 := h.step hc (fun e => e)
theorem Box7.new (w : World) (v0 v1 v2 v3 v4 v5 v6 : Value) (t : TypeId) : Box7 (w.alloc (.cells #[v0, v1, v2, v3, v4, v5, v6] t)) w.heap.size v0 v1 v2 v3 v4 v5 v6 := by
 refine ⟨?_, ?_, ?_, ?_, ?_, ?_, ?_, fun o => World.frozen?_alloc_new _ _ _ _⟩ <;> (rw [World.cell?_alloc_new]; rfl)
theorem Box7.at {w : World} {b n : Nat} {v0 v1 v2 v3 v4 v5 v6 : Value} (h : Box7 w b v0 v1 v2 v3 v4 v5 v6) (e : b = n) : Box7 w n v0 v1 v2 v3 v4 v5 v6 := e ▸ h
theorem Box7.far {w : World} {b : Nat} {v0 v1 v2 v3 v4 v5 v6 : Value} (h : Box7 w b v0 v1 v2 v3 v4 v5 v6) (p : Addr) (x : Value) (hp : p.block ≠ b) : Box7 (w.setCell p x) b v0 v1 v2 v3 v4 v5 v6 :=
 h.step (S := fun k => k = p.block) ((Chg.refl (fun k => k = p.block) w).setCell (p := p) (fun _ => rfl) x) (fun e => hp e.symm)
theorem Chg.put7 {S : Nat → Prop} {w0 wr : World} (h : Chg S w0 wr) {b : Nat} (hb : b < w0.heap.size → S b) (x0 x1 x2 x3 x4 x5 x6 : Value) :
  Chg S w0 (((((((wr.setCell ⟨b, 0, none⟩ x0).setCell ⟨b, 1, none⟩ x1).setCell ⟨b, 2, none⟩ x2).setCell ⟨b, 3, none⟩ x3).setCell ⟨b, 4, none⟩ x4).setCell ⟨b, 5, none⟩ x5).setCell ⟨b, 6, none⟩ x6) :=
 (((((((h.setCell (p := ⟨b, 0, none⟩) hb x0).setCell (p := ⟨b, 1, none⟩) hb x1).setCell (p := ⟨b, 2, none⟩) hb x2).setCell (p := ⟨b, 3, none⟩) hb x3).setCell (p := ⟨b, 4, none⟩) hb x4).setCell (p := ⟨b, 5, none⟩) hb x5).setCell (p := ⟨b, 6, none⟩) hb x6)
theorem Box7.put7 {w : World} {b : Nat} {v0 v1 v2 v3 v4 v5 v6 : Value} (h : Box7 w b v0 v1 v2 v3 v4 v5 v6) (x0 x1 x2 x3 x4 x5 x6 : Value) :
  Box7 (((((((w.setCell ⟨b, 0, none⟩ x0).setCell ⟨b, 1, none⟩ x1).setCell ⟨b, 2, none⟩ x2).setCell ⟨b, 3, none⟩ x3).setCell ⟨b, 4, none⟩ x4).setCell ⟨b, 5, none⟩ x5).setCell ⟨b, 6, none⟩ x6) b x0 x1 x2 x3 x4 x5 x6 := by
 obtain ⟨c0, c1, c2, c3, c4, c5, c6, fr⟩ := h
 have o : ∀ (w : World) (i j : Nat) (x : Value), i ≠ j → (w.setCell ⟨b, i, none⟩ x).cell? ⟨b, j, none⟩ = w.cell? ⟨b, j, none⟩ := fun w i j x hij => World.cell?_setCell_other _ _ _ _ (by simp)
 refine ⟨?_, ?_, ?_, ?_, ?_, ?_, ?_, fun i => ?_⟩
 ·rw [o _ 6 0 _ (by omega), o _ 5 0 _ (by omega), o _ 4 0 _ (by omega), o _ 3 0 _ (by omega), o _ 2 0 _ (by omega), o _ 1 0 _ (by omega)]; exact World.cell?_setCell_same _ _ _ c0
 ·rw [o _ 6 1 _ (by omega), o _ 5 1 _ (by omega), o _ 4 1 _ (by omega), o _ 3 1 _ (by omega), o _ 2 1 _ (by omega)]; exact World.cell?_setCell_same _ _ _ ((o _ 0 1 _ (by omega)).trans c1)
 ·rw [o _ 6 2 _ (by omega), o _ 5 2 _ (by omega), o _ 4 2 _ (by omega), o _ 3 2 _ (by omega)]; exact World.cell?_setCell_same _ _ _ ((o _ 1 2 _ (by omega)).trans ((o _ 0 2 _ (by omega)).trans c2))
 ·rw [o _ 6 3 _ (by omega), o _ 5 3 _ (by omega), o _ 4 3 _ (by omega)]; exact World.cell?_setCell_same _ _ _ ((o _ 2 3 _ (by omega)).trans ((o _ 1 3 _ (by omega)).trans ((o _ 0 3 _ (by omega)).trans c3)))
 ·rw [o _ 6 4 _ (by omega), o _ 5 4 _ (by omega)]; exact World.cell?_setCell_same _ _ _ ((o _ 3 4 _ (by omega)).trans ((o _ 2 4 _ (by omega)).trans ((o _ 1 4 _ (by omega)).trans ((o _ 0 4 _ (by omega)).trans c4))))
 ·rw [o _ 6 5 _ (by omega)]; exact World.cell?_setCell_same _ _ _ ((o _ 4 5 _ (by omega)).trans ((o _ 3 5 _ (by omega)).trans ((o _ 2 5 _ (by omega)).trans ((o _ 1 5 _ (by omega)).trans ((o _ 0 5 _ (by omega)).trans c5)))))
 ·exact World.cell?_setCell_same _ _ _ ((o _ 5 6 _ (by omega)).trans ((o _ 4 6 _ (by omega)).trans ((o _ 3 6 _ (by omega)).trans ((o _ 2 6 _ (by omega)).trans ((o _ 1 6 _ (by omega)).trans ((o _ 0 6 _ (by omega)).trans c6))))))
 ·simp only [World.frozen?_setCell]; exact fr i
theorem OI.put7 {base : Nat} {wr : World} {v : Value} {l : List Int} (h : OI base wr v l) {b : Nat} (hb : ∀ k, own v k → k ≠ b) (x0 x1 x2 x3 x4 x5 x6 : Value) :
  OI base (((((((wr.setCell ⟨b, 0, none⟩ x0).setCell ⟨b, 1, none⟩ x1).setCell ⟨b, 2, none⟩ x2).setCell ⟨b, 3, none⟩ x3).setCell ⟨b, 4, none⟩ x4).setCell ⟨b, 5, none⟩ x5).setCell ⟨b, 6, none⟩ x6) v l :=
 h.step ((Chg.refl (fun k => k = b) wr).put7 (fun _ => rfl) x0 x1 x2 x3 x4 x5 x6) hb
structure Pl where
 frm : Int
 ca : Ca
 fa : Int
def servedP (frm p k : Int) (l : List Int) : Pl := ⟨frm, runC (newC p k) l, ((places (newC p k) l).length : Int)⟩
def RP (A : Nat → Prop) (w : World) (v : Value) (x : Pl) : Prop :=
 ∃ pv mv, v = .agg #[.int .i64 x.frm, .int .i64 x.ca.pol, .int .i64 x.ca.size, pv, mv, .int .i64 x.ca.hand, .int .i64 x.fa] ∧ RI A w pv x.ca.pages ∧ RI A w mv x.ca.marks
def RPO (base : Nat) (w : World) (v : Value) (x : Pl) : Prop :=
 ∃ pv mv, v = .agg #[.int .i64 x.frm, .int .i64 x.ca.pol, .int .i64 x.ca.size, pv, mv, .int .i64 x.ca.hand, .int .i64 x.fa] ∧ OI base w pv x.ca.pages ∧ OI base w mv x.ca.marks ∧ ∀ q, own pv q → ¬ own mv q
theorem RPO.read {base : Nat} {w : World} {v : Value} {x : Pl} (h : RPO base w v x) {A : Nat → Prop} (hA : ∀ q, base ≤ q → ¬ A q) : RP A w v x := by
 obtain ⟨pv, mv, rfl, h1, h2, _⟩ := h
 exact ⟨pv, mv, rfl, h1.read (fun q hq => hA q (h1.lt q hq).1), h2.read (fun q hq => hA q (h2.lt q hq).1)⟩
theorem RPO.keep {base : Nat} {w w' : World} {v : Value} {x : Pl} (h : RPO base w v x) (hc : Chg No w w') : RPO base w' v x := by
 obtain ⟨pv, mv, rfl, h1, h2, h3⟩ := h
 exact ⟨pv, mv, rfl, h1.keep hc, h2.keep hc, h3⟩
theorem RPO.weak {base base' : Nat} {w : World} {v : Value} {x : Pl} (h : RPO base w v x) (hb : base' ≤ base) : RPO base' w v x := by
 obtain ⟨pv, mv, rfl, h1, h2, h3⟩ := h
 exact ⟨pv, mv, rfl, h1.weak hb, h2.weak hb, h3⟩
theorem RP.keep {A : Nat → Prop} {w w' : World} {v : Value} {x : Pl} (h : RP A w v x) (hc : Chg No w w') : RP A w' v x := by
 obtain ⟨pv, mv, rfl, h1, h2⟩ := h
 exact ⟨pv, mv, rfl, h1.keep hc, h2.keep hc⟩
theorem RP.cache {A : Nat → Prop} {w : World} {x : Pl} {x0 x1 x2 pv mv x5 x6 : Value} (h : RP A w (.agg #[x0, x1, x2, pv, mv, x5, x6]) x) : RC A w (.agg #[x1, x2, pv, mv, x5]) x.ca := by
 obtain ⟨pv', mv', e, h1, h2⟩ := h
 simp only [Value.agg.injEq, Array.mk.injEq, List.cons.injEq, and_true] at e
 obtain ⟨_, rfl, rfl, rfl, rfl, rfl, _⟩ := e
 exact ⟨_, _, rfl, h1, h2⟩
set_option maxHeartbeats 2000000 in
theorem playerOf_any (frm p k : Int) (rv : Value) (l : List Int) (w : World) (hr : RI No w rv l) (hok0 : Ok (newC p k)) :
  Calls Tryz.prog 58 #[.int .i64 frm, .int .i64 p, .int .i64 k, rv] w (Ret fun r w' => RPO w.heap.size w' r (servedP frm p k l) ∧ Chg No w w') := by
 obtain ⟨ra, rc, rfl, hcap, hmax, hlen, _, hc⟩ := id hr
 have HC0 := Lib.hid hc
 clear hc
 have b70 := (Box7.new w (.int .i64 0) (.int .i64 0) (.int .i64 0) (.slice none 0 0) (.slice none 0 0) (.int .i64 0) (.int .i64 0) 68)
 have k70 := (Chg.refl No w).alloc (.cells #[.int .i64 0, .int .i64 0, .int .i64 0, .slice none 0 0, .slice none 0 0, .int .i64 0, .int .i64 0] 68)
 have z70 : (w.alloc (.cells #[.int .i64 0, .int .i64 0, .int .i64 0, .slice none 0 0, .slice none 0 0, .int .i64 0, .int .i64 0] 68)).heap.size = w.heap.size + 1 := by simp
 go_enter Tryz.func58, Tryz.ntmps58
 go_wp2_with fail
 have nn : ∀ q, ¬ own (.slice none 0 0) q := fun q h => by simp [own, Value.ownBlock] at h
 have kal := k70.alloc (.cells #[.int .i64 p, .int .i64 k, .slice none 0 0, .slice none 0 0, .int .i64 0] 66)
 have kb := (Chg.refl No (w.alloc (.cells #[.int .i64 0, .int .i64 0, .int .i64 0, .slice none 0 0, .slice none 0 0, .int .i64 0, .int .i64 0] 68))).alloc (.cells #[.int .i64 p, .int .i64 k, .slice none 0 0, .slice none 0 0, .int .i64 0] 66)
 have mc : MC (w.heap.size + 2) ((w.alloc (.cells #[.int .i64 0, .int .i64 0, .int .i64 0, .slice none 0 0, .slice none 0 0, .int .i64 0, .int .i64 0] 68)).alloc (.cells #[.int .i64 p, .int .i64 k, .slice none 0 0, .slice none 0 0, .int .i64 0] 66)) (w.heap.size + 1) (newC p k) (.slice none 0 0) (.slice none 0 0) :=
  ⟨(Box.new _ _ _ _ _ _ _).at z70, OI.nil _ _, OI.nil _ _, fun q h => (nn q h).elim, nn _, nn _⟩
 have b70 := b70.keep kb
 clear k70 kb
 go_loopw [10, 18] (fun f i wr => ∃ (j : Nat) (pv mv : Value), j ≤ l.length ∧ i = .int .i64 j ∧ f = .int .i64 ((placesTo (newC p k) l j).length : Int) ∧ MC (w.heap.size + 2) wr (w.heap.size + 1) (runC (newC p k) (l.take j)) pv mv ∧
  Box7 wr w.heap.size (.int .i64 0) (.int .i64 0) (.int .i64 0) (.slice none 0 0) (.slice none 0 0) (.int .i64 0) (.int .i64 0) ∧ Chg No w wr) (fun _ i _ => l.length - (intOf i).toNat)
 case atStart => exact ⟨0, _, _, Nat.zero_le _, rfl, rfl, mc, b70, kal⟩
 case round =>
  clear mc b70 kal z70
  obtain ⟨j, pv', mv', hj, rfl, rfl, hM, hb1, hch⟩ := hrel
  obtain ⟨ck, hck⟩ : ∃ ck, runC (newC p k) (l.take j) = ck := ⟨_, rfl⟩
  have hokk : Ok ck := hck ▸ ok_run hok0 _
  have hsz := hM.box.lt
  have hf : ∀ q, foot (w.heap.size + 1) pv' mv' q → w.heap.size < q := fun q hq => by
   rcases hq with rfl | hq | hq
   ·omega
   ·have := (hM.pages.lt q hq).1; omega
   ·have := (hM.marks.lt q hq).1; omega
  by_cases hlt : j < l.length
  ·rw [hck] at hM
   obtain ⟨b, off, rfl, _, hb, hcell⟩ := HC0.out (by intro e; simp [e] at hlt)
   have hrun := runC_snoc (newC p k) l j hlt
   rw [hck] at hrun
   obtain ⟨y, hy⟩ : ∃ y, l[j] = y := ⟨_, rfl⟩
   have hcl := (hch.cellD b (off + j) hb (fun e => e)).trans (hcell j hlt)
   have hgy : l.getD j 0 = y := by rw [← hy, List.getD_eq_getElem?_getD, List.getElem?_eq_getElem hlt]; rfl
   rw [hgy] at hcl
   rw [hy] at hrun
   have hpl : placesTo (newC p k) l (j + 1) = if hasB ck.pages y then placesTo (newC p k) l j else placesTo (newC p k) l j ++ [(j : Int)] := by
    show (if hasB (runC (newC p k) (l.take j)).pages (l.getD j 0) then _ else _) = _
    rw [hck, hgy]
   have hple := placesTo_le (newC p k) l j
   have HR := Lib.hid hrun
   have HP := Lib.hid hpl
   have hj0 : (0 : Int) ≤ (j : Int) := Int.natCast_nonneg _
   have hj1 : (j : Int) < (l.length : Int) := by omega
   have hw1 : IntKind.i64.wrap ((j : Int) + 1) = (j : Int) + 1 := IntWalk.i64_in _ (by omega)
   have hw2 : IntKind.i64.wrap (((placesTo (newC p k) l j).length : Int) + 1) = ((placesTo (newC p k) l j).length : Int) + 1 := IntWalk.i64_in _ (by omega)
   clear hcell hrun hpl hple hck hgy hy
   go_wp2_with fail
   refine (step_any (w.heap.size + 2) (w.heap.size + 1) ck y pv' mv' wr hM (by omega) hokk).mono ?_
   rintro e w3 ⟨_, rfl, rfl, pv3, mv3, mc3, k3, f3⟩
   have hb3 := hb1.step k3 (fun hq => by have := hf _ hq; omega)
   have hch3 := hch.step k3 (fun q hq hl => by have := hf q hq; omega)
   rw [← HR.out] at mc3
   clear hM hb1 hch k3 f3 hcl hf hsz
   cases hh : hasB ck.pages y
   ·have HL : Hid ((placesTo (newC p k) l (j + 1)).length = (placesTo (newC p k) l j).length + 1) := Lib.hid (by rw [HP.out, hh]; simp)
    simp only [Bool.not_false]
    go_wp2_with fail
    go_roundw
    case measure => simp [intOf]; omega
    case rel => exact ⟨j + 1, pv3, mv3, by omega, by go_num, by rw [HL.out]; go_num, mc3, hb3, hch3⟩
   ·have HL : Hid ((placesTo (newC p k) l (j + 1)).length = (placesTo (newC p k) l j).length) := Lib.hid (by rw [HP.out, hh]; simp)
    simp only [Bool.not_true]
    go_wp2_with fail
    go_roundw
    case measure => simp [intOf]; omega
    case rel => exact ⟨j + 1, pv3, mv3, by omega, by go_num, by rw [HL.out], mc3, hb3, hch3⟩
  ·have hjl : j = l.length := by omega
   subst hjl
   rw [List.take_length] at hM hck
   obtain ⟨a4, n4, q4, rfl⟩ := hM.pages.shape
   obtain ⟨a5, n5, q5, rfl⟩ := hM.marks.shape
   obtain ⟨c0, c1, c2, c3, c4, fr⟩ := id hM.box
   obtain ⟨cc, hcc⟩ : ∃ cc, runC (newC p k) l = cc := ⟨_, rfl⟩
   rw [hcc] at hM c0 c1 c4
   obtain ⟨np, hnp⟩ : ∃ np, ((placesTo (newC p k) l l.length).length : Int) = np := ⟨_, rfl⟩
   have HSV : Hid (servedP frm p k l = ⟨frm, cc, np⟩) := Lib.hid (by rw [servedP, hcc, places, hnp])
   clear hck hokk hcc
   rw [hnp]
   clear hnp
   go_wp2_with fail
   refine (ownCache_any No _ cc wr ⟨_, _, rfl, hM.pages.readNo, hM.marks.readNo⟩).mono ?_
   rintro e w4 ⟨v4, rfl, o4, k4⟩
   have hl3 := hb1.lt
   have B1 := hb1.keep k4
   have hk := hch.keep k4
   have o4' := o4
   obtain ⟨xp, xm, rfl, hxp, hxm, hxa⟩ := id o4
   obtain ⟨xa, xn, xc, rfl⟩ := hxp.shape
   obtain ⟨ya, yn, yc, rfl⟩ := hxm.shape
   clear c0 c1 c2 c3 c4 fr hM hb1 hch hf
   obtain ⟨s0, s1, s2, s3, s4, s5, s6, sf⟩ := id B1
   have sf0 := sf 0
   have sf1 := sf 1
   have sf2 := sf 2
   have sf3 := sf 3
   have sf4 := sf 4
   have sf5 := sf 5
   have sf6 := sf 6
   clear sf
   go_wp2_with fail
   obtain ⟨z0, z1, z2, z3, z4, z5, z6, _⟩ := B1.put7 (.int .i64 frm) (.int .i64 cc.pol) (.int .i64 cc.size) (.slice xa xn xc) (.slice ya yn yc) (.int .i64 cc.hand) (.int .i64 np)
   refine bodyPost_ret (v := .agg #[.int .i64 frm, .int .i64 cc.pol, .int .i64 cc.size, .slice xa xn xc, .slice ya yn yc, .int .i64 cc.hand, .int .i64 np]) (by simp [results, Tryz.results58, go_sem, z0, z1, z2, z3, z4, z5, z6]) rfl ?_
   refine ⟨_, rfl, ?_, hk.put7 (b := w.heap.size) (fun h => by omega) _ _ _ _ _ _ _⟩
   rw [HSV.out]
   exact ⟨_, _, rfl, (hxp.put7 (fun q hq e => by have := (hxp.lt q hq).1; omega) _ _ _ _ _ _ _).weak (by omega), (hxm.put7 (fun q hq e => by have := (hxm.lt q hq).1; omega) _ _ _ _ _ _ _).weak (by omega), hxa⟩
set_option maxHeartbeats 2000000 in
theorem l12Player_any (frm p k : Int) (i : Nat) (hfi : frm = (i : Int)) (rv : Value) (l : List Int) (hi : i ≤ l.length) (w : World) (hr : RI No w rv l) (hok0 : Ok (newC p k)) :
  Calls Tryz.prog 84 #[.int .i64 p, .int .i64 k, .int .i64 frm, rv] w (Ret fun r w' => RPO w.heap.size w' r (servedP frm p k (l.drop i)) ∧ Chg No w w') := by
 obtain ⟨ra, rc, rfl, hcap, hmax, hlen, _, _⟩ := id hr
 obtain ⟨xs, hx, hrx⟩ := hr.from i frm hfi hi
 obtain ⟨xa, xn, xc, rfl⟩ := hrx.shape
 have b70 := (Box7.new w (.int .i64 0) (.int .i64 0) (.int .i64 0) (.slice none 0 0) (.slice none 0 0) (.int .i64 0) (.int .i64 0) 68)
 have k70 := (Chg.refl No w).alloc (.cells #[.int .i64 0, .int .i64 0, .int .i64 0, .slice none 0 0, .slice none 0 0, .int .i64 0, .int .i64 0] 68)
 clear hfi hi hcap hmax hlen
 go_enter Tryz.func84, Tryz.ntmps84
 go_wp2_with fail
 refine (l4New_any p k _).mono ?_
 rintro e w1 ⟨v1, rfl, r1, k1⟩
 have r1 := r1 No (Bd.no _)
 obtain ⟨pv, mv, rfl, hp, hmk⟩ := id r1
 obtain ⟨pa, pn, pc, rfl⟩ := hp.shape
 obtain ⟨ma, mn, mc, rfl⟩ := hmk.shape
 simp only [newC] at r1
 have b70 := b70.keep k1
 have k70 := k70.keep k1
 go_wp2_with fail
 simp only [newC]
 have hN := b70.lt
 refine box1 (R := fun W => Code.wp _ _ _ _ W) (fun W kW b9 => ?_)
 refine wp_region_K (S := fun W => Box W w1.heap.size (.int .i64 p) (.int .i64 k) (.slice pa pn pc) (.slice ma mn mc) (.int .i64 0)) (k := 11) (by kernel_rfl) ?_
 have hd := (Chg.refl No W).drew
 have b9 := b9.keep hd
 have b70 := (b70.keep kW).keep hd
 have hk := (k70.keep kW).keep hd
 have r1 := (r1.keep kW).keep hd
 generalize W.drew = W at b9 b70 hk r1 ⊢
 clear hd kW k1 k70 hp hmk
 have hS := b9
 refine wpAnyK_take0 0 (.int .i64 frm) rfl (by kernel_rfl) (fun _ _ _ h => h) hS rfl (by intro w; go_simp) ?_
 simp only [zA, zC, zD, zE, zF, zG]
 refine wpAnyK_take0 2 (.slice ra l.length rc) rfl (by kernel_rfl) (fun _ _ _ h => h) hS rfl (by intro w; go_simp) ?_
 simp only [zA, zB, zC, zD, zE, zF, zG]
 refine wpAnyK_take0 3 (.int .i64 frm) rfl (by kernel_rfl) (fun _ _ _ h => h) hS rfl (by intro w; go_simp) ?_
 simp only [zA, zB, zC, zD, zE, zF, zG]
 refine wpAnyK_take0 4 (.slice xa xn xc) rfl (by kernel_rfl) (fun _ _ _ h => h) hS rfl (by intro w; go_simp) ?_
 simp only [zA, zB, zC, zD, zE, zF, zG]
 refine wpAnyK_take0 8 (.slice ra l.length rc) rfl (by kernel_rfl) (fun _ _ _ h => h) hS rfl (by intro w; go_simp) ?_
 simp only [zA, zB, zC, zD, zE, zF, zG]
 refine wpAnyK_take0 9 (.int .i64 frm) rfl (by kernel_rfl) (fun _ _ _ h => h) hS rfl (by intro w; go_simp) ?_
 simp only [zA, zB, zC, zD, zE, zF, zG]
 refine wpAnyK_take0 10 (.slice xa xn xc) rfl (by kernel_rfl) (fun _ _ _ h => h) hS rfl (by intro w; go_simp) ?_
 simp only [zA, zB, zC, zD, zE, zF, zG]
 refine wpAnyK_take 7 (.agg #[.int .i64 p, .int .i64 k, .slice pa pn pc, .slice ma mn mc, .int .i64 0]) rfl (by kernel_rfl) (fun _ _ _ h => h) hS rfl (by rintro w ⟨c0, c1, c2, c3, c4, fr⟩; go_simp) ?_
 simp only [zA, zB, zC, zD, zE, zF, zG]
 refine wpAnyK_1 1 (by kernel_rfl) (wpOpK' rfl rfl ?_)
 intro K hK
 obtain ⟨c0, c1, c2, c3, c4, fr⟩ := id b9
 unfold Oper.wp execOp
 go_simp
 refine hK.out _ _ hS ?_
 clear hK K c0 c1 c2 c3 c4 fr hS
 simp only [List.setIfInBounds_toArray]
 refine wpAnyK_1 5 (by kernel_rfl) (wpOpK' rfl rfl ?_)
 intro K hK
 refine ocall (f := 127) (args := #[.agg #[.int .i64 p, .int .i64 k, .slice pa pn pc, .slice ma mn mc, .int .i64 0], .slice xa xn xc]) (by go_simp) (l4Run_any _ _ (newC p k) _ W r1 (hrx.keep hk) hok0) (fun v3 w3 h3 => hK.out _ _ (b9.keep h3.2) ?_)
 obtain ⟨r3, k3⟩ := h3
 clear hK K
 simp only [zA, zB, zC, zD, zE, zF, zG]
 have b9 := b9.keep k3
 have b70 := b70.keep k3
 have hk := hk.keep k3
 have r1 := r1.keep k3
 refine wpAnyK_1 6 (by kernel_rfl) (wpOpK' rfl rfl ?_)
 intro K hK
 refine ocall (f := 126) (args := #[v3]) (by go_simp) (l4Copy_any No v3 _ w3 r3) (fun v4 w4 h4 => hK.out _ _ (b9.keep h4.2) ?_)
 obtain ⟨o4, k4⟩ := h4
 clear hK K
 simp only [zA, zB, zC, zD, zE, zF, zG]
 have hl1 := b70.lt
 have b9 := b9.keep k4
 have b70 := b70.keep k4
 have hk := hk.keep k4
 have r1 := r1.keep k4
 refine wpAnyK_1 11 (by kernel_rfl) (wpOpK' rfl rfl ?_)
 intro K hK
 refine ocall (f := 128) (args := #[.agg #[.int .i64 p, .int .i64 k, .slice pa pn pc, .slice ma mn mc, .int .i64 0], .slice xa xn xc]) (by go_simp) (l4Places_any No _ _ (newC p k) _ w4 r1 (hrx.keep hk) (Bd.no _) hok0) (fun v5 w5 h5 => hK.out _ _ (b9.keep h5.2) ?_)
 obtain ⟨o5, k5⟩ := h5
 clear hK K
 obtain ⟨a5, q5, rfl, _⟩ := o5.view
 simp only [zA, zB, zC, zD, zE, zF, zG]
 have hS := b9.keep k5
 have b70 := b70.keep k5
 have hk := hk.keep k5
 have o4' := o4.keep k5
 obtain ⟨cc, hcc⟩ : ∃ cc, runC (newC p k) (l.drop i) = cc := ⟨_, rfl⟩
 obtain ⟨np, hnp⟩ : ∃ np, ((places (newC p k) (l.drop i)).length : Int) = np := ⟨_, rfl⟩
 have HSV : Hid (servedP frm p k (l.drop i) = ⟨frm, cc, np⟩) := Lib.hid (by rw [servedP, hcc, hnp])
 rw [hcc] at o4'
 refine wpAnyK_take0 12 (.int .i64 ((places (newC p k) (l.drop i)).length : Int)) rfl (by kernel_rfl) (fun _ _ _ h => h) hS rfl (by intro w; go_simp) ?_
 simp only [zA, zB, zC, zD, zE, zF, zG]
 rw [hnp]
 obtain ⟨xp, xm, rfl, hxp, hxm, hxa⟩ := o4'
 obtain ⟨ya, yn, yc, rfl⟩ := hxp.shape
 obtain ⟨za, zn, zc, rfl⟩ := hxm.shape
 clear hcc hnp o4 o5 r1 r3
 refine wpAnyK_take0 13 (.agg #[.int .i64 frm, .int .i64 cc.pol, .int .i64 cc.size, .slice ya yn yc, .slice za zn zc, .int .i64 cc.hand, .int .i64 np]) rfl (by kernel_rfl) (fun _ _ _ h => h) hS rfl (by intro w; go_simp) ?_
 simp only [zA, zB, zC, zD, zE, zF, zG]
 clear hS
 obtain ⟨s0, s1, s2, s3, s4, s5, s6, sf⟩ := id b70
 have sf0 := sf 0
 have sf1 := sf 1
 have sf2 := sf 2
 have sf3 := sf 3
 have sf4 := sf 4
 have sf5 := sf 5
 have sf6 := sf 6
 clear sf
 refine wpAnyK_tailK 14 rfl (by kernel_rfl) ?_
 simp only [List.drop_succ_cons, List.drop_zero]
 go_wp2_with fail
 obtain ⟨z0, z1, z2, z3, z4, z5, z6, _⟩ := b70.put7 (.int .i64 frm) (.int .i64 cc.pol) (.int .i64 cc.size) (.slice ya yn yc) (.slice za zn zc) (.int .i64 cc.hand) (.int .i64 np)
 refine bodyPost_ret (v := .agg #[.int .i64 frm, .int .i64 cc.pol, .int .i64 cc.size, .slice ya yn yc, .slice za zn zc, .int .i64 cc.hand, .int .i64 np]) (by simp [results, Tryz.results84, go_sem, z0, z1, z2, z3, z4, z5, z6]) rfl ?_
 refine ⟨_, rfl, ?_, hk.put7 (b := w.heap.size) (fun h => by omega) _ _ _ _ _ _ _⟩
 rw [HSV.out]
 exact ⟨_, _, rfl, (hxp.put7 (fun q hq e => by have := (hxp.lt q hq).1; omega) _ _ _ _ _ _ _).weak (by omega), (hxm.put7 (fun q hq e => by have := (hxm.lt q hq).1; omega) _ _ _ _ _ _ _).weak (by omega), hxa⟩
end Go.Proofs.YtdgcohoneijleaaGreatDoor
