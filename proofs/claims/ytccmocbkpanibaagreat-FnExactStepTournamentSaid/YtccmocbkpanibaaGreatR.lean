import Derived.Test.YtccmocbkpanibaaGreatQ
import Derived.Test.YtccmocbkpanibaaGreatH
/- FaultPlaces, both sides -/
namespace Go.Proofs.YtccmocbkpanibaaGreat
open Go.RowKit

def JF (base bo : Nat) (c : Ca) (l : List Int) (j : Nat) (U : Nat → Prop) (w : World) : Prop :=
  ∃ ov, w.cell? ⟨bo, 0, none⟩ = some ov ∧ w.frozen? ⟨bo, 0, none⟩ = false ∧ OI base w ov (placesTo c l j) ∧ (∀ q, U q ↔ q = bo ∨ own ov q) ∧ ¬ own ov bo ∧ base ≤ bo

set_option maxRecDepth 100000 in
set_option maxHeartbeats 1000000 in
theorem faultPlaces1_any (base bo : Nat) (c : Ca) (l : List Int) (j : Nat) (U : Nat → Prop) (w : World) (xb xa : Value) (hj : j < l.length) (hll : l.length ≤ 17592186044416) (h : JF base bo c l j U w) (hb : base ≤ w.heap.size) (sb : ∃ a n q, xb = .slice a n q) (sa : ∃ a n q, xa = .slice a n q) :
    Calls Tryz.prog 124 #[.int .i64 (j : Int), xb, xa, .bool (!hasB (runC c (l.take j)).pages (l.getD j 0)), .pointer (some ⟨bo, 0, none⟩)] w
      (Ret fun v' w' => v' = .tuple #[] ∧ ∃ U', JF base bo c l (j + 1) U' w' ∧ Chg U w w' ∧ ∀ q, U' q → U q ∨ w.heap.size ≤ q) := by
  obtain ⟨ov, hc, hf, ho, hU, hno, hbo⟩ := h
  obtain ⟨_, _, _, rfl⟩ := sb
  obtain ⟨_, _, _, rfl⟩ := sa
  obtain ⟨a, n, q, rfl⟩ := ho.shape
  have hbl := World.block_lt_of_cell? w _ hc
  simp only at hbl
  have hpl : placesTo c l (j + 1) = if hasB (runC c (l.take j)).pages (l.getD j 0) then placesTo c l j else placesTo c l j ++ [(j : Int)] := rfl
  cases hh : hasB (runC c (l.take j)).pages (l.getD j 0)
  · have HP : Hid (placesTo c l (j + 1) = placesTo c l j ++ [(j : Int)]) := Lib.hid (by rw [hpl, hh]; rfl)
    have hle := placesTo_le c l j
    clear hpl hh
    go_enter Tryz.func124, Tryz.ntmps124
    go_wp2_with (at_builtin; refine wapp1 rfl (.tmp 10) (.tmp 12) rfl ho rfl rfl (by omega) hb ?_)
    intro v1 w1 h1 k1 f1
    obtain ⟨a1, n1, q1, rfl⟩ := h1.shape
    have g1 := (k1.cellD bo 0 hbl hno).trans hc
    have g2 := (k1.frozenD bo 0 hbl hno).trans hf
    have hz := k1.size
    have hno1 : ¬ own (.slice a1 n1 q1) bo := fun hq => by
      rcases f1 bo hq with h2 | h2
      · exact hno h2
      · omega
    go_wp2_with fail
    go_end0
    refine ⟨_, rfl, rfl, fun q => q = bo ∨ own (.slice a1 n1 q1) q, ⟨_, World.cell?_setCell_same _ _ _ g1, (World.frozen?_setCell _ _ _ _).trans g2, ?_, fun q => Iff.rfl, hno1, hbo⟩, (k1.mono (fun q hq _ => (hU q).2 (.inr hq))).setCell (fun _ => (hU bo).2 (.inl rfl)) _, fun q hq => ?_⟩
    · rw [HP.out]; exact h1.set bo 0 _ hno1
    · rcases hq with rfl | hq
      · exact .inl ((hU _).2 (.inl rfl))
      · rcases f1 q hq with h2 | h2
        · exact .inl ((hU _).2 (.inr h2))
        · exact .inr h2
  · have HP : Hid (placesTo c l (j + 1) = placesTo c l j) := Lib.hid (by rw [hpl, hh]; rfl)
    clear hpl hh
    go_enter Tryz.func124, Tryz.ntmps124
    go_wp2_with fail
    go_end0
    exact ⟨_, rfl, rfl, U, ⟨_, hc, hf, by rw [HP.out]; exact ho, hU, hno, hbo⟩, Chg.refl _ w, fun q hq => .inl hq⟩

theorem JF.keep {base bo : Nat} {c : Ca} {l : List Int} {j : Nat} {U : Nat → Prop} {w w' : World} {S : Nat → Prop} (h : JF base bo c l j U w) (hc : Chg S w w') (hs : ∀ q, U q → ¬ S q) : JF base bo c l j U w' := by
  obtain ⟨ov, h1, h2, h3, h4, h5, h6⟩ := h
  have hbl := World.block_lt_of_cell? w _ h1
  have hsb := hs bo ((h4 bo).2 (.inl rfl))
  exact ⟨ov, (hc.cellD bo 0 hbl hsb).trans h1, (hc.frozenD bo 0 hbl hsb).trans h2, h3.step hc (fun q hq => hs q ((h4 q).2 (.inr hq))), h4, h5, h6⟩
theorem JF.lt {base bo : Nat} {c : Ca} {l : List Int} {j : Nat} {U : Nat → Prop} {w : World} (h : JF base bo c l j U w) (q : Nat) (hq : U q) : q < w.heap.size := by
  obtain ⟨ov, h1, h2, h3, h4, h5, h6⟩ := h
  rcases (h4 q).1 hq with rfl | hq
  · exact World.block_lt_of_cell? w _ h1
  · exact (h3.lt q hq).2
theorem JF.each (base bo : Nat) (c : Ca) (l : List Int) (hll : l.length ≤ 17592186044416) : Each 124 (.pointer (some ⟨bo, 0, none⟩)) c l (JF base bo c l) :=
  ⟨fun _ _ _ h => h.lt, fun _ _ _ _ _ h hc hs => h.keep hc hs, fun j U w xb xa hj h hb ha => by
    refine faultPlaces1_any base bo c l j U w xb xa hj hll h ?_ hb.shape ha.shape
    obtain ⟨ov, h1, _, _, _, _, h6⟩ := h
    exact Nat.le_trans h6 (Nat.le_of_lt (World.block_lt_of_cell? w _ h1))⟩
theorem cfPlaces (x0 x1 x2 x3 cv : Value) (w : World) : (callFunc 124 #[x0, x1, x2, x3, cv]).run Tryz.prog w = .ok (.enter 124 #[x0, x1, x2, x3, cv]) w := by kernel_rfl

set_option maxRecDepth 100000 in
set_option maxHeartbeats 1000000 in
theorem faultPlaces_any (A : Nat → Prop) (p k : Int) (v : Value) (l : List Int) (w : World) (hv : RI A w v l) (hok : Ok (newC p k)) :
    Calls Tryz.prog 75 #[.int .i64 p, .int .i64 k, v] w (Ret fun v' w' => OI w.heap.size w' v' (places (newC p k) l) ∧ Chg No w w') := by
  have hll := hv.len
  have hvk := fun w' (h : Chg No w w') => hv.to (B := fun q => w.heap.size ≤ q) h (fun _ e => e.elim) (fun q hq => .inr hq)
  obtain ⟨a, n, q, rfl⟩ := hv.shape
  go_enter Tryz.func75, Tryz.ntmps75
  go_wp2_with fail
  have hsz : w.heap.size + 1 = (w.alloc (.cells #[] 3)).heap.size := (World.size_alloc ..).symm
  have hJ0 : JF w.heap.size (w.heap.size + 1) (newC p k) l 0 (fun q => q = w.heap.size + 1 ∨ own (.slice (some ⟨w.heap.size, 0, none⟩) 0 0) q) ((w.alloc (.cells #[] 3)).alloc (.cells #[.slice (some ⟨w.heap.size, 0, none⟩) 0 0] 23)) := by
    refine ⟨.slice (some ⟨w.heap.size, 0, none⟩) 0 0, ?_, ?_, (OI.zeroAt rfl (Nat.le_refl _)).alloc _, fun q => Iff.rfl, fun hq => ?_, by omega⟩
    · rw [hsz, World.cell?_alloc_new]; rfl
    · rw [hsz]; exact World.frozen?_alloc_new _ _ _ _
    · have := own_slice.1 hq; omega
  refine (run_any 124 (.pointer (some ⟨w.heap.size + 1, 0, none⟩)) p k _ l _ _ _ (JF.each w.heap.size (w.heap.size + 1) (newC p k) l hll) hJ0 (fun x0 x1 x2 x3 w => cfPlaces x0 x1 x2 x3 _ w) ((hvk _ (((Chg.refl No w).alloc _).alloc _)).weak (fun q hq _ => ?_)) hok).mono ?_
  · rcases hq with rfl | hq
    · exact Nat.le_succ _
    · have := own_slice.1 hq; omega
  rintro e w1 ⟨v1, rfl, rfl, U1, ⟨ov, h1, h2, h3, h4, h5, h6⟩, hch, hU1⟩
  obtain ⟨a1, n1, q1, rfl⟩ := h3.shape
  have hch' : Chg No w w1 := (((Chg.refl No w).alloc _).alloc _).step hch (fun q hq hl => by
    rcases hq with rfl | hq
    · omega
    · have := own_slice.1 hq; omega)
  clear hJ0 hsz hch hvk
  go_wp2
  go_ret
  exact ⟨_, rfl, h3, hch'⟩

def askedB (n p k : Int) (l : List Int) : Bool := inB p 1 7 && inB k 1 6 && (inB n 1 8 && decide (l.length ≤ 60) && belowB n l)
theorem askedB_ok {n p k : Int} {l : List Int} (h : askedB n p k l = true) : Ok (newC p k) := by
  simp only [askedB, Bool.and_eq_true, inB_iff] at h
  exact ok_new h.1.1 h.1.2

set_option maxRecDepth 100000 in
set_option maxHeartbeats 1000000 in
theorem implFaultPlaces_any (A : Nat → Prop) (n p k : Int) (v : Value) (l : List Int) (w : World) (hv : RI A w v l) :
    Calls Tryz.prog 37 #[.int .i64 n, .int .i64 p, .int .i64 k, v] w (Ret2 fun v0 v1 w' => v1 = .bool (askedB n p k l) ∧ OI w.heap.size w' v0 (if askedB n p k l then places (newC p k) l else []) ∧ Chg No w w') := by
  cases hh : askedB n p k l
  · have HH := Lib.hid hh
    clear hh
    go_enter Tryz.func37, Tryz.ntmps37
    go_wp2_with fail
    refine (isRun_any A v l n p k w hv).mono ?_
    rintro e w1 ⟨v1, rfl, rfl, k1⟩
    rw [show (inB p 1 7 && inB k 1 6 && (inB n 1 8 && decide (l.length ≤ 60) && belowB n l)) = false from HH.out]
    go_wp2
    go_ret2
    exact ⟨_, _, rfl, rfl, OI.nil _ _, k1⟩
  · have HH := Lib.hid hh
    clear hh
    go_enter Tryz.func37, Tryz.ntmps37
    go_wp2_with fail
    refine (isRun_any A v l n p k w hv).mono ?_
    rintro e w1 ⟨v1, rfl, rfl, k1⟩
    rw [show (inB p 1 7 && inB k 1 6 && (inB n 1 8 && decide (l.length ≤ 60) && belowB n l)) = true from HH.out]
    go_wp2_with fail
    refine (faultPlaces_any A p k v l w1 (hv.keep k1) (askedB_ok HH.out)).mono ?_
    rintro e w2 ⟨v2, rfl, o2, k2⟩
    go_wp2
    go_ret2
    exact ⟨_, _, rfl, rfl, o2.weak k1.size, k1.keep k2⟩
end Go.Proofs.YtccmocbkpanibaaGreat
