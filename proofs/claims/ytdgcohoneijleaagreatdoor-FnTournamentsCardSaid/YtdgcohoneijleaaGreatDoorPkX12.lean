import Derived.Test.YtdgcohoneijleaaGreatDoorTb
import Derived.Test.YtdgcohoneijleaaGreatDoorPkX1
set_option maxRecDepth 100000
namespace Go.Proofs.YtdgcohoneijleaaGreatDoor
open Go.RowKit
def wantP (x : Pl) (l : List Int) : Pl := servedP x.frm x.ca.pol x.ca.size (l.drop x.frm.toNat)
def playB (x : Pl) (l : List Int) : Bool := inB x.frm 0 l.length && (inB x.ca.pol 1 7 && inB x.ca.size 1 6) && (sameB (wantP x l).ca x.ca && (wantP x l).fa == x.fa)
theorem sameB_comm (a b : Ca) : sameB a b = sameB b a := by
 unfold sameB
 rw [show (a.pol == b.pol) = (b.pol == a.pol) from BEq.comm, show (a.size == b.size) = (b.size == a.size) from BEq.comm, show (a.hand == b.hand) = (b.hand == a.hand) from BEq.comm,
  show (a.pages == b.pages) = (b.pages == a.pages) from BEq.comm, show (a.marks == b.marks) = (b.marks == a.marks) from BEq.comm]
theorem box71 {w : World} {t : TypeId} {x0 x1 x2 x3 x4 x5 x6 : Value} {R : World → Prop} (h : ∀ W, Chg No w W → Box7 W w.heap.size x0 x1 x2 x3 x4 x5 x6 → R W) : R (w.alloc (.cells #[x0, x1, x2, x3, x4, x5, x6] t)) :=
 h _ ((Chg.refl No w).alloc _) (Box7.new w x0 x1 x2 x3 x4 x5 x6 t)
set_option maxHeartbeats 1000000 in
theorem l12Plays_any (A : Nat → Prop) (v rv : Value) (x : Pl) (l : List Int) (w : World) (h : RP A w v x) (hr : RI No w rv l) :
  Calls Tryz.prog 71 #[v, rv] w (Ret fun r w' => r = .bool (playB x l) ∧ Chg No w w') := by
 obtain ⟨frm, c, fa⟩ := x
 have hv := h
 obtain ⟨pv, mv, rfl, hp, hmk⟩ := h
 simp only at hp hmk hv ⊢
 obtain ⟨pa, pn, pc, rfl⟩ := hp.shape
 obtain ⟨ma, mn, mc, rfl⟩ := hmk.shape
 obtain ⟨ra, rc, rfl, _⟩ := id hr
 have k0 := (Chg.refl No w).alloc (.cells #[.int .i64 frm, .int .i64 c.pol, .int .i64 c.size, .slice pa pn pc, .slice ma mn mc, .int .i64 c.hand, .int .i64 fa] 68)
 cases h1 : inB frm 0 l.length
 ·have HP : Hid (playB ⟨frm, c, fa⟩ l = false) := Lib.hid (by simp [playB, h1])
  have H1 := Lib.hid h1
  clear h1
  go_enter Tryz.func71, Tryz.ntmps71
  go_wp2_with fail
  refine (l1In_any _ _ _ _).mono ?_
  rintro e w1 ⟨rfl, rfl⟩
  rw [H1.out]
  go_wp2_with fail
  go_ret
  exact ⟨_, rfl, by rw [HP.out]; rfl, k0⟩
 ·cases h2 : (inB c.pol 1 7 && inB c.size 1 6)
  ·have HP : Hid (playB ⟨frm, c, fa⟩ l = false) := Lib.hid (by simp only [playB, h2, Bool.and_false, Bool.false_and])
   have H1 := Lib.hid h1
   have H2 := Lib.hid h2
   clear h1 h2
   go_enter Tryz.func71, Tryz.ntmps71
   go_wp2_with fail
   refine (l1In_any _ _ _ _).mono ?_
   rintro e w1 ⟨rfl, rfl⟩
   rw [H1.out]
   go_wp2_with fail
   refine (l4Sizes_any _ _ _).mono ?_
   rintro e w2 ⟨rfl, rfl⟩
   rw [H2.out]
   go_wp2_with fail
   go_ret
   exact ⟨_, rfl, by rw [HP.out]; rfl, k0⟩
  ·have HP : Hid (playB ⟨frm, c, fa⟩ l = (sameB (wantP ⟨frm, c, fa⟩ l).ca c && (wantP ⟨frm, c, fa⟩ l).fa == fa)) := Lib.hid (by simp only [playB, h1, h2, Bool.true_and])
   have hb := inB_iff.1 h1
   have hok : Ok (newC c.pol c.size) := by
    simp only [Bool.and_eq_true, inB_iff] at h2
    exact ok_new h2.1 h2.2
   have H1 := Lib.hid h1
   have H2 := Lib.hid h2
   have HF : Hid (frm = (frm.toNat : Int)) := Lib.hid (by omega)
   have HI : Hid (frm.toNat ≤ l.length) := Lib.hid (by omega)
   clear h1 h2 hb
   go_enter Tryz.func71, Tryz.ntmps71
   go_wp2_with fail
   refine box71 (R := fun W => Calls _ _ _ W _) (fun W kW b0 => ?_)
   refine (l1In_any _ _ _ _).mono ?_
   rintro e w1 ⟨rfl, rfl⟩
   rw [H1.out]
   obtain ⟨c0, c1, c2, c3, c4, c5, c6, _⟩ := id b0
   go_wp2_with fail
   refine (l4Sizes_any _ _ _).mono ?_
   rintro e w2 ⟨rfl, rfl⟩
   rw [H2.out]
   go_wp2_with fail
   refine (l12Player_any frm c.pol c.size frm.toNat HF.out _ l HI.out W (hr.keep kW) hok).mono ?_
   rintro e w3 ⟨v3, rfl, o3, k3⟩
   have hwant : wantP ⟨frm, c, fa⟩ l = servedP frm c.pol c.size (l.drop frm.toNat) := rfl
   rw [← hwant] at o3
   obtain ⟨y, hy⟩ : ∃ y, wantP ⟨frm, c, fa⟩ l = y := ⟨_, rfl⟩
   rw [hy] at o3 HP
   clear hwant hy c0 c1 c2 c3 c4 c5 c6
   have b0 := b0.keep k3
   have kk := kW.keep k3
   have o3' := o3
   obtain ⟨xp, xm, rfl, hxp, hxm, hxa⟩ := o3
   obtain ⟨ya, yn, yc, rfl⟩ := hxp.shape
   obtain ⟨za, zn, zc, rfl⟩ := hxm.shape
   have kal := (Chg.refl No w3).alloc (.cells #[.int .i64 y.frm, .int .i64 y.ca.pol, .int .i64 y.ca.size, .slice ya yn yc, .slice za zn zc, .int .i64 y.ca.hand, .int .i64 y.fa] 68)
   have b1 := Box7.new w3 (.int .i64 y.frm) (.int .i64 y.ca.pol) (.int .i64 y.ca.size) (.slice ya yn yc) (.slice za zn zc) (.int .i64 y.ca.hand) (.int .i64 y.fa) 68
   have b0 := b0.keep kal
   have kk := kk.keep kal
   have r3 := (o3'.keep kal).read (A := No) (fun _ _ e => e)
   obtain ⟨c0, c1, c2, c3, c4, c5, c6, _⟩ := id b0
   go_wp2_with fail
   refine (l12SameCache_any No A _ _ y.ca c _ r3.cache (hv.keep kk).cache).mono ?_
   rintro e w4 ⟨_, rfl, rfl, k4⟩
   have b0 := b0.keep k4
   have b1 := b1.keep k4
   have kk := kk.keep k4
   clear c0 c1 c2 c3 c4 c5 c6
   obtain ⟨c0, c1, c2, c3, c4, c5, c6, _⟩ := id b0
   obtain ⟨d0, d1, d2, d3, d4, d5, d6, _⟩ := id b1
   cases hs : sameB y.ca c
   ·have HP : Hid (playB ⟨frm, c, fa⟩ l = false) := Lib.hid (by rw [HP.out, hs]; rfl)
    go_wp2_with fail
    go_ret
    exact ⟨_, rfl, by rw [HP.out]; rfl, kk⟩
   ·have HP : Hid (playB ⟨frm, c, fa⟩ l = (y.fa == fa)) := Lib.hid (by rw [HP.out, hs]; rfl)
    go_wp2_with fail
    go_ret
    exact ⟨_, rfl, by rw [HP.out]; rfl, kk⟩
end Go.Proofs.YtdgcohoneijleaaGreatDoor
namespace Go.Proofs.YtdgcohoneijleaaGreatDoor
open Go.RowKit
def dPl : Pl := ⟨0, zeroC, 0⟩
structure Cell7 (w : World) (b o : Nat) (x : Pl) (pv mv : Value) : Prop where
 c0 : w.cell? ⟨b, o, none⟩ = some (.int .i64 x.frm)
 c1 : w.cell? ⟨b, o + 1, none⟩ = some (.int .i64 x.ca.pol)
 c2 : w.cell? ⟨b, o + 2, none⟩ = some (.int .i64 x.ca.size)
 c3 : w.cell? ⟨b, o + 3, none⟩ = some pv
 c4 : w.cell? ⟨b, o + 4, none⟩ = some mv
 c5 : w.cell? ⟨b, o + 5, none⟩ = some (.int .i64 x.ca.hand)
 c6 : w.cell? ⟨b, o + 6, none⟩ = some (.int .i64 x.fa)
theorem Cell7.step {S : Nat → Prop} {w w' : World} {b o : Nat} {x : Pl} {pv mv : Value} (h : Cell7 w b o x pv mv) (hc : Chg S w w') (hb : b < w.heap.size) (hS : ¬ S b) : Cell7 w' b o x pv mv :=
 ⟨(hc.cellD b _ hb hS).trans h.c0, (hc.cellD b _ hb hS).trans h.c1, (hc.cellD b _ hb hS).trans h.c2, (hc.cellD b _ hb hS).trans h.c3, (hc.cellD b _ hb hS).trans h.c4, (hc.cellD b _ hb hS).trans h.c5, (hc.cellD b _ hb hS).trans h.c6⟩
def RPS (A : Nat → Prop) (w : World) (v : Value) (ls : List Pl) : Prop :=
 ∃ a cap, v = .slice a ls.length cap ∧ ls.length ≤ cap ∧ cap ≤ 9223372036854775807 ∧ ls.length ≤ 1048576 ∧ ∃ pf mf : Nat → Value,
  (∀ i, i < ls.length → RI A w (pf i) (ls.getD i dPl).ca.pages ∧ RI A w (mf i) (ls.getD i dPl).ca.marks) ∧
  (ls ≠ [] → ∃ b off, a = some ⟨b, off, none⟩ ∧ ¬ A b ∧ b < w.heap.size ∧ ∀ i, i < ls.length → Cell7 w b (off + i * 7) (ls.getD i dPl) (pf i) (mf i))
theorem RPS.keep {A : Nat → Prop} {w w' : World} {v : Value} {ls : List Pl} (h : RPS A w v ls) (hc : Chg No w w') : RPS A w' v ls := by
 obtain ⟨a, cap, rfl, h1, h2, h3, pf, mf, h4, h5⟩ := h
 refine ⟨a, cap, rfl, h1, h2, h3, pf, mf, fun i hi => ⟨(h4 i hi).1.keep hc, (h4 i hi).2.keep hc⟩, fun hl => ?_⟩
 obtain ⟨b, off, rfl, hA, hb, hcell⟩ := h5 hl
 exact ⟨b, off, rfl, hA, Nat.lt_of_lt_of_le hb hc.size, fun i hi => (hcell i hi).step hc hb (fun e => e)⟩
structure To where
 items : Int
 ps : List Pl
 reqs : List Int
def RT (A : Nat → Prop) (w : World) (v : Value) (t : To) : Prop := ∃ pv rv, v = .agg #[.int .i64 t.items, pv, rv] ∧ RPS A w pv t.ps ∧ RI A w rv t.reqs
theorem RT.keep {A : Nat → Prop} {w w' : World} {v : Value} {t : To} (h : RT A w v t) (hc : Chg No w w') : RT A w' v t := by
 obtain ⟨pv, rv, rfl, h1, h2⟩ := h
 exact ⟨pv, rv, rfl, h1.keep hc, h2.keep hc⟩
structure Box3 (w : World) (b : Nat) (v0 v1 v2 : Value) : Prop where
 c0 : w.cell? ⟨b, 0, none⟩ = some v0
 c1 : w.cell? ⟨b, 1, none⟩ = some v1
 c2 : w.cell? ⟨b, 2, none⟩ = some v2
 fr : ∀ o, w.frozen? ⟨b, o, none⟩ = false
theorem Box3.lt {w : World} {b : Nat} {v0 v1 v2 : Value} (h : Box3 w b v0 v1 v2) : b < w.heap.size := World.block_lt_of_cell? w _ h.c0
theorem Box3.step {S : Nat → Prop} {w w' : World} {b : Nat} {v0 v1 v2 : Value} (h : Box3 w b v0 v1 v2) (hc : Chg S w w') (hS : ¬ S b) : Box3 w' b v0 v1 v2 := by
 have hb := h.lt
 exact ⟨(hc.cellD b 0 hb hS).trans h.c0, (hc.cellD b 1 hb hS).trans h.c1, (hc.cellD b 2 hb hS).trans h.c2, fun o => (World.frozen?_of_block (hc.block b hb hS)).trans (h.fr o)⟩
theorem Box3.keep {w w' : World} {b : Nat} {v0 v1 v2 : Value} (h : Box3 w b v0 v1 v2) (hc : Chg No w w') : Box3 w' b v0 v1 v2 := h.step hc (fun e => e)
theorem Box3.new (w : World) (v0 v1 v2 : Value) (t : TypeId) : Box3 (w.alloc (.cells #[v0, v1, v2] t)) w.heap.size v0 v1 v2 := by
 refine ⟨?_, ?_, ?_, fun o => World.frozen?_alloc_new _ _ _ _⟩ <;> (rw [World.cell?_alloc_new]; rfl)
theorem box31 {w : World} {t : TypeId} {x0 x1 x2 : Value} {R : World → Prop} (h : ∀ W, Chg No w W → Box3 W w.heap.size x0 x1 x2 → R W) : R (w.alloc (.cells #[x0, x1, x2] t)) :=
 h _ ((Chg.refl No w).alloc _) (Box3.new w x0 x1 x2 t)
def tourB (t : To) : Bool := reqB t.items t.reqs && (decide (t.ps.length ≤ 4) && t.ps.all fun x => playB x t.reqs)
def AllTo (p : Pl → Bool) (ls : List Pl) (j : Nat) : Prop := ∀ i, i < j → p (ls.getD i dPl) = true
theorem AllTo.succ {p : Pl → Bool} {ls : List Pl} {j : Nat} (h : AllTo p ls j) (hj : p (ls.getD j dPl) = true) : AllTo p ls (j + 1) := fun i hi => by
 by_cases e : i = j
 ·rw [e]; exact hj
 ·exact h i (by omega)
theorem AllTo.full {p : Pl → Bool} {ls : List Pl} (h : AllTo p ls ls.length) : ls.all p = true := by
 rw [List.all_eq_true]
 intro x hx
 obtain ⟨i, hi, rfl⟩ := List.getElem_of_mem hx
 have := h i hi
 rwa [List.getD_eq_getElem?_getD, List.getElem?_eq_getElem hi] at this
theorem all_no {p : Pl → Bool} {ls : List Pl} {j : Nat} (hj : j < ls.length) (h : p (ls.getD j dPl) = false) : ls.all p = false := by
 rw [List.all_eq_false]
 refine ⟨ls[j], List.getElem_mem hj, ?_⟩
 rw [List.getD_eq_getElem?_getD, List.getElem?_eq_getElem hj] at h
 simpa using h
set_option maxHeartbeats 2000000 in
theorem l12Tour_any (v : Value) (t : To) (w : World) (h : RT No w v t) :
  Calls Tryz.prog 30 #[v] w (Ret fun r w' => r = .bool (tourB t) ∧ Chg No w w') := by
 obtain ⟨it, ps, rq⟩ := t
 obtain ⟨pv, rv, rfl, hps, hrq⟩ := h
 simp only at hps hrq ⊢
 obtain ⟨ra, rc, rfl, _⟩ := id hrq
 obtain ⟨a, cap, rfl, hcap, hmax, hlen, pf, mf, hl, hcl⟩ := id hps
 have k0 := (Chg.refl No w).alloc (.cells #[.int .i64 it, .slice a ps.length cap, .slice ra rq.length rc] 31)
 have b0 := Box3.new w (.int .i64 it) (.slice a ps.length cap) (.slice ra rq.length rc) 31
 cases h1 : reqB it rq
 ·have HT : Hid (tourB ⟨it, ps, rq⟩ = false) := Lib.hid (by simp [tourB, h1])
  have H1 : Hid ((inB it 1 8 && decide (rq.length ≤ 60) && belowB it rq) = false) := Lib.hid h1
  clear h1 hl hcl
  go_enter Tryz.func30, Tryz.ntmps30
  go_wp2_with fail
  refine (l3Good_any No _ rq it _ (hrq.keep k0)).mono ?_
  rintro e w1 ⟨rfl, rfl⟩
  rw [H1.out]
  go_wp2_with fail
  go_ret
  exact ⟨_, rfl, by rw [HT.out]; rfl, k0⟩
 ·have H1 : Hid ((inB it 1 8 && decide (rq.length ≤ 60) && belowB it rq) = true) := Lib.hid h1
  by_cases h4 : ps.length ≤ 4
  ·have HT : Hid (tourB ⟨it, ps, rq⟩ = ps.all fun x => playB x rq) := Lib.hid (by simp [tourB, h1, h4])
   have h4i : ¬ (4 : Int) < (ps.length : Int) := by omega
   have HL := Lib.hid hl
   have HC := Lib.hid hcl
   clear h1 h4 hl hcl
   go_enter Tryz.func30, Tryz.ntmps30
   go_wp2_with fail
   refine (l3Good_any No _ rq it _ (hrq.keep k0)).mono ?_
   rintro e w1 ⟨rfl, rfl⟩
   rw [H1.out]
   go_wp2_with fail
   go_loopw [3] (fun i wr => ∃ j : Nat, j ≤ ps.length ∧ i = .int .i64 j ∧ Hid (AllTo (fun x => playB x rq) ps j) ∧ Box3 wr w.heap.size (.int .i64 it) (.slice a ps.length cap) (.slice ra rq.length rc) ∧ Chg No w wr) (fun i _ => ps.length - (intOf i).toNat)
   case atStart => exact ⟨0, Nat.zero_le _, rfl, Lib.hid (fun i hi => absurd hi (Nat.not_lt_zero _)), b0, k0⟩
   case round =>
    clear b0 k0
    obtain ⟨j, hj, rfl, HA, hb3, hch⟩ := hrel
    by_cases hlt : j < ps.length
    ·obtain ⟨b, off, rfl, _, hb, hcell⟩ := HC.out (by intro e; simp [e] at hlt)
     have h7 := hcell j hlt
     obtain ⟨hpj, hmj⟩ := HL.out j hlt
     have hno := all_no (p := fun x => playB x rq) hlt
     have hsu := HA.out.succ (p := fun x => playB x rq)
     obtain ⟨y, hy⟩ : ∃ y, ps.getD j dPl = y := ⟨_, rfl⟩
     rw [hy] at h7 hpj hmj hno hsu
     have HN := Lib.hid hno
     have HS := Lib.hid hsu
     clear hcell hno hsu hy
     have hj0 : (0 : Int) ≤ (j : Int) := Int.natCast_nonneg _
     have hj1 : (j : Int) < (ps.length : Int) := by omega
     have hw1 : IntKind.i64.wrap ((j : Int) + 1) = (j : Int) + 1 := IntWalk.i64_in _ (by omega)
     obtain ⟨pj, hpe⟩ : ∃ pj, pf j = pj := ⟨_, rfl⟩
     obtain ⟨mj, hme⟩ : ∃ mj, mf j = mj := ⟨_, rfl⟩
     rw [hpe] at hpj h7
     rw [hme] at hmj h7
     clear hpe hme
     obtain ⟨ya, yn, yc, rfl⟩ := hpj.shape
     obtain ⟨za, zn, zc, rfl⟩ := hmj.shape
     obtain ⟨C, hC1, hC2⟩ : ∃ C : World → Prop, (∀ W, C W → Box3 W w.heap.size (.int .i64 it) (.slice (some ⟨b, off, none⟩) ps.length cap) (.slice ra rq.length rc) ∧ Chg No w W) ∧
       (∀ W, Box3 W w.heap.size (.int .i64 it) (.slice (some ⟨b, off, none⟩) ps.length cap) (.slice ra rq.length rc) → Chg No w W → C W) := ⟨_, fun _ h => h, fun _ h h' => ⟨h, h'⟩⟩
     have HCELL : Hid (∀ W, C W → W.cell? ⟨w.heap.size, 0, none⟩ = some (.int .i64 it) ∧ W.cell? ⟨w.heap.size, 1, none⟩ = some (.slice (some ⟨b, off, none⟩) ps.length cap) ∧ W.cell? ⟨w.heap.size, 2, none⟩ = some (.slice ra rq.length rc) ∧
       W.cell? ⟨b, off + j * 7, none⟩ = some (.int .i64 y.frm) ∧ W.cell? ⟨b, off + j * 7 + 1, none⟩ = some (.int .i64 y.ca.pol) ∧ W.cell? ⟨b, off + j * 7 + 2, none⟩ = some (.int .i64 y.ca.size) ∧ W.cell? ⟨b, off + j * 7 + 3, none⟩ = some (.slice ya yn yc) ∧
       W.cell? ⟨b, off + j * 7 + 4, none⟩ = some (.slice za zn zc) ∧ W.cell? ⟨b, off + j * 7 + 5, none⟩ = some (.int .i64 y.ca.hand) ∧ W.cell? ⟨b, off + j * 7 + 6, none⟩ = some (.int .i64 y.fa) ∧ True) := Lib.hid (fun W hW => by
      obtain ⟨g1, g2⟩ := hC1 W hW
      have g3 := h7.step g2 hb (fun e => e)
      exact ⟨g1.c0, g1.c1, g1.c2, g3.c0, g3.c1, g3.c2, g3.c3, g3.c4, g3.c5, g3.c6, trivial⟩)
     have HK : Hid (∀ W W', C W → Chg No W W' → C W') := Lib.hid (fun W W' hW hk => hC2 W' ((hC1 W hW).1.keep hk) ((hC1 W hW).2.keep hk))
     have HX := Lib.hid hC1
     have hC0 := hC2 _ (hb3.keep (Chg.refl No _).drew) hch.drew
     obtain ⟨c0, c1, c2, _⟩ := id hb3
     clear hC1 hC2 h7
     go_wp2_with fail
     refine wp_region_X C (by kernel_rfl) (by kernel_rfl) hC0 ?_
     clear c0 c1 c2 hC0
     refine wpX_val (.pointer (some ⟨w.heap.size, 1, none⟩)) rfl (by intro W hW; obtain ⟨c0, c1, c2, d0, d1, d2, d3, d4, d5, d6, _⟩ := HCELL.out W hW; go_simp) ?_
     simp only [zD, zE, zF, zG]
     refine wpX_val (.slice (some ⟨b, off, none⟩) ps.length cap) rfl (by intro W hW; obtain ⟨c0, c1, c2, d0, d1, d2, d3, d4, d5, d6, _⟩ := HCELL.out W hW; go_simp) ?_
     simp only [zD, zE, zF, zG]
     refine wpX_val (.int .i64 j) rfl (by intro W hW; obtain ⟨c0, c1, c2, d0, d1, d2, d3, d4, d5, d6, _⟩ := HCELL.out W hW; go_simp) ?_
     simp only [zD, zE, zF, zG]
     refine wpX_val (.pointer (some ⟨b, off + j * 7, none⟩)) rfl (by intro W hW; obtain ⟨c0, c1, c2, d0, d1, d2, d3, d4, d5, d6, _⟩ := HCELL.out W hW; go_simp) ?_
     simp only [zD, zE, zF, zG]
     refine wpX_val (.agg #[.int .i64 y.frm, .int .i64 y.ca.pol, .int .i64 y.ca.size, .slice ya yn yc, .slice za zn zc, .int .i64 y.ca.hand, .int .i64 y.fa]) rfl (by intro W hW; obtain ⟨c0, c1, c2, d0, d1, d2, d3, d4, d5, d6, _⟩ := HCELL.out W hW; go_simp) ?_
     simp only [zD, zE, zF, zG]
     refine wpX_val (.pointer (some ⟨w.heap.size, 2, none⟩)) rfl (by intro W hW; obtain ⟨c0, c1, c2, d0, d1, d2, d3, d4, d5, d6, _⟩ := HCELL.out W hW; go_simp) ?_
     simp only [zD, zE, zF, zG]
     refine wpX_val (.slice ra rq.length rc) rfl (by intro W hW; obtain ⟨c0, c1, c2, d0, d1, d2, d3, d4, d5, d6, _⟩ := HCELL.out W hW; go_simp) ?_
     simp only [zD, zE, zF, zG]
     refine wpX_call (.bool (playB y rq)) (f := 71) (args := #[.agg #[.int .i64 y.frm, .int .i64 y.ca.pol, .int .i64 y.ca.size, .slice ya yn yc, .slice za zn zc, .int .i64 y.ca.hand, .int .i64 y.fa], .slice ra rq.length rc]) rfl (by intro W hW; go_simp)
      (fun W hW => (l12Plays_any No _ _ y rq W ⟨_, _, rfl, hpj.keep (HX.out W hW).2, hmj.keep (HX.out W hW).2⟩ (hrq.keep (HX.out W hW).2)).mono (by rintro e w' ⟨_, rfl, rfl, hk⟩; exact ⟨rfl, HK.out _ _ hW hk⟩)) ?_
     simp only [zD, zE, zF, zG]
     refine wpX_val (.bool !(playB y rq)) rfl (by intro W hW; obtain ⟨c0, c1, c2, d0, d1, d2, d3, d4, d5, d6, _⟩ := HCELL.out W hW; go_simp) ?_
     simp only [zD, zE, zF, zG]
     refine wpX_nil (fun W hW => ?_)
     obtain ⟨g1, g2⟩ := HX.out W hW
     cases hpb : playB y rq
     ·simp only [Bool.not_false]
      go_wp2_with fail
      go_ret
      exact ⟨_, rfl, by rw [HT.out, HN.out hpb]; rfl, g2⟩
     ·simp only [Bool.not_true]
      go_wp2_with fail
      go_round
      case rel => exact ⟨j + 1, by omega, by go_num, Lib.hid (HS.out hpb), g1, g2⟩
      case measure => simp [intOf]; omega
    ·have hjl : j = ps.length := by omega
     subst hjl
     obtain ⟨c0, c1, c2, _⟩ := id hb3
     go_wp2_with fail
     go_ret
     exact ⟨_, rfl, by rw [HT.out, HA.out.full]; rfl, hch⟩
  ·have HT : Hid (tourB ⟨it, ps, rq⟩ = false) := Lib.hid (by simp [tourB, h4])
   have h4i : (4 : Int) < (ps.length : Int) := by omega
   clear h1 h4 hl hcl
   go_enter Tryz.func30, Tryz.ntmps30
   go_wp2_with fail
   refine (l3Good_any No _ rq it _ (hrq.keep k0)).mono ?_
   rintro e w1 ⟨rfl, rfl⟩
   rw [H1.out]
   go_wp2_with fail
   go_ret
   exact ⟨_, rfl, by rw [HT.out]; rfl, k0⟩
end Go.Proofs.YtdgcohoneijleaaGreatDoor
