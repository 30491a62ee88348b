import Derived.Test.YtdgcohoneijleaaGreatPkX4
import Derived.Test.YtdgcohoneijleaaGreatPkX3
/- rows looked for by a function; tests of tables (plain) -/
namespace Go.Proofs.YtdgcohoneijleaaGreat
open Go.RowKit

theorem any_getD {α : Type} (l : List α) (d : α) (p : α → Bool) : l.any p = true ↔ ∃ j, j < l.length ∧ p (l.getD j d) = true := by
  rw [List.any_eq_true]
  constructor
  · rintro ⟨x, hx, hp⟩
    obtain ⟨j, hj, rfl⟩ := List.getElem_of_mem hx
    exact ⟨j, hj, by rw [List.getD_eq_getElem?_getD, List.getElem?_eq_getElem hj]; exact hp⟩
  · rintro ⟨j, hj, hp⟩
    rw [List.getD_eq_getElem?_getD, List.getElem?_eq_getElem hj] at hp
    exact ⟨_, List.getElem_mem hj, hp⟩
/-- the conditions of a table, those of one place -/
def okT (d : List (List Int)) (x y : Nat) : Prop := cellA d x y = cellA d y x ∧ (x = y → cellA d x y = 0) ∧ (x ≠ y → 1 ≤ cellA d x y ∧ cellA d x y ≤ 99)
def okD (d : List (List Int)) (x y z : Nat) : Prop := cellA d x z ≤ cellA d x y + cellA d y z
def TabP (d : List (List Int)) : Prop := (1 ≤ d.length ∧ d.length ≤ 6) ∧ (∀ x, x < d.length → (d.getD x []).length = d.length) ∧ ∀ x y, x < d.length → y < d.length → okT d x y
def DetP (d : List (List Int)) : Prop := ∀ x y z, x < d.length → y < d.length → z < d.length → okD d x y z
theorem metP_iff (d : List (List Int)) : MetP d ↔ TabP d ∧ DetP d := ⟨fun h => ⟨⟨h.1, h.2.1, h.2.2.1⟩, h.2.2.2⟩, fun h => ⟨h.1.1, h.1.2.1, h.1.2.2, h.2⟩⟩
/-- truth as a Bool -/
noncomputable def bP (p : Prop) : Bool := @decide p (Classical.propDecidable p)
theorem bP_iff {p : Prop} : bP p = true ↔ p := by unfold bP; exact @decide_eq_true_iff p (Classical.propDecidable p)
theorem bP_yes {p : Prop} (h : p) : bP p = true := bP_iff.2 h
theorem bP_no {p : Prop} (h : ¬ p) : bP p = false := by
  cases e : bP p
  · rfl
  · exact absurd (bP_iff.1 e) h
theorem bP_and {p q : Prop} : bP (p ∧ q) = (bP p && bP q) := by
  by_cases hp : p
  · by_cases hq : q
    · rw [bP_yes ⟨hp, hq⟩, bP_yes hp, bP_yes hq]; rfl
    · rw [bP_no (fun h => hq h.2), bP_yes hp, bP_no hq]; rfl
  · rw [bP_no (fun h => hp h.1), bP_no hp]; rfl
/-- all pairs before a place in the order of two loops -/
def Bef (n : Nat) (P : Nat → Nat → Prop) (x y : Nat) : Prop := (∀ i j, i < x → j < n → P i j) ∧ ∀ j, j < y → P x j
theorem Bef.zero {n : Nat} {P : Nat → Nat → Prop} : Bef n P 0 0 := ⟨fun _ _ h => absurd h (Nat.not_lt_zero _), fun _ h => absurd h (Nat.not_lt_zero _)⟩
theorem Bef.next {n : Nat} {P : Nat → Nat → Prop} {x y : Nat} (h : Bef n P x y) (hp : P x y) : Bef n P x (y + 1) := ⟨h.1, fun j hj => by
  by_cases e : j = y
  · subst e; exact hp
  · exact h.2 j (by omega)⟩
theorem Bef.row {n : Nat} {P : Nat → Nat → Prop} {x : Nat} (h : Bef n P x n) : Bef n P (x + 1) 0 := ⟨fun i j hi hj => by
  by_cases e : i = x
  · subst e; exact h.2 j hj
  · exact h.1 i j (by omega) hj, fun _ h => absurd h (Nat.not_lt_zero _)⟩
theorem Bef.all {n : Nat} {P : Nat → Nat → Prop} (h : Bef n P n 0) : ∀ x y, x < n → y < n → P x y := fun x y hx hy => h.1 x y hx hy
/-- a row of a table, and a cell of it -/
theorem RII.row {A : Nat → Prop} {w : World} {a : Option Addr} {n cap : Nat} {ll : List (List Int)} (h : RII A w (.slice a n cap) ll) {i : Nat} (hi : i < ll.length) :
    ∃ b off xa xc, a = some ⟨b, off, none⟩ ∧ b < w.heap.size ∧ w.cell? ⟨b, off + i, none⟩ = some (.slice xa (ll.getD i []).length xc) ∧ RI A w (.slice xa (ll.getD i []).length xc) (ll.getD i []) := by
  obtain ⟨a', cap', e, _, _, hr⟩ := h.view
  simp only [Value.slice.injEq] at e
  obtain ⟨rfl, rfl, rfl⟩ := e
  obtain ⟨b, off, x, rfl, _, hb, hc, hx⟩ := hr i hi
  obtain ⟨xa, xc, rfl, _⟩ := id hx
  exact ⟨b, off, xa, xc, rfl, hb, hc, hx⟩
theorem RI.cellN {A : Nat → Prop} {w : World} {a : Option Addr} {n cap : Nat} {l : List Int} (h : RI A w (.slice a n cap) l) {j : Nat} (hj : j < l.length) :
    ∃ b off, a = some ⟨b, off, none⟩ ∧ b < w.heap.size ∧ w.cell? ⟨b, off + j, none⟩ = some (.int .i64 (l.getD j 0)) := by
  obtain ⟨a', cap', e, _, _, _, _, hc⟩ := h
  simp only [Value.slice.injEq] at e
  obtain ⟨rfl, rfl, rfl⟩ := e
  obtain ⟨b, off, rfl, _, hb, hcell⟩ := hc (by intro e; simp [e] at hj)
  exact ⟨b, off, rfl, hb, hcell j hj⟩

set_option maxRecDepth 100000 in
set_option maxHeartbeats 2000000 in
theorem IndexFuncR_any (A : Nat → Prop) (v : Value) (ll : List (List Int)) (w : World) (h : RII A w v ll) (f : FuncId) (c0 : Value) (p : List Int → Bool)
    (hcf : ∀ x (w : World), (callFunc f #[x, c0]).run Tryz.prog w = .ok (.enter f #[x, c0]) w)
    (hp : ∀ (i : Nat) (xv : Value) (W : World), i < ll.length → Chg No w W → RI A W xv (ll.getD i []) → Calls Tryz.prog f #[xv, c0] W (Ret fun r w' => r = .bool (p (ll.getD i [])) ∧ Chg No W w')) :
    Calls Tryz.prog 97 #[v, .func (.func f) #[] #[c0]] w (Ret fun r w' => (∃ i : Int, r = .int .i64 i ∧ decide (0 ≤ i) = ll.any p) ∧ Chg No w w') := by
  obtain ⟨a, cap, rfl, hcap, hmax, _⟩ := h.view
  have HP := Lib.hid hp
  clear hp
  go_enter Tryz.func97, Tryz.ntmps97
  go_wp2_with fail
  go_loopw [4, 8] (fun r z wr => ∃ j : Nat, j ≤ ll.length ∧ z = .int .i64 (j : Int) ∧ r = .int .i64 0 ∧ (∀ i, i < j → p (ll.getD i []) = false) ∧ Chg No w wr) (fun _ z _ => ll.length - (intOf z).toNat)
  case atStart => exact ⟨0, Nat.zero_le _, rfl, rfl, fun i hi => absurd hi (Nat.not_lt_zero i), Chg.refl _ _⟩
  case round =>
    obtain ⟨j, hj, rfl, rfl, hno, kk⟩ := hrel
    have HNO := Lib.hid hno
    clear hno
    have hj0 : (0 : Int) ≤ (j : Int) := Int.natCast_nonneg _
    by_cases hlt : j < ll.length
    · have hj1 : (j : Int) < (ll.length : Int) := by omega
      have hwj : IntKind.i64.wrap ((j : Int) + 1) = (j : Int) + 1 := IntWalk.i64_in _ (by omega)
      obtain ⟨b, off, xa, xc, rfl, hb, hck, hrj⟩ := (h.keep kk).row hlt
      obtain ⟨y, hy⟩ : ∃ y, ll.getD j [] = y := ⟨_, rfl⟩
      have HPJ := Lib.hid (HP.out j _ wr hlt kk hrj)
      rw [hy] at hck hrj HPJ
      have HY := Lib.hid hy
      clear hy
      go_wp2_with fail
      refine HPJ.out.mono ?_
      rintro e w' ⟨_, rfl, rfl, k1⟩
      have kk1 := kk.keep k1
      cases hpy : p y
      · have HPY := Lib.hid hpy
        clear hpy hck hrj
        go_wp2_with fail
        go_round
        case measure => simp [intOf]; omega
        case rel =>
          refine ⟨j + 1, by omega, by go_num, rfl, fun i hi => ?_, kk1⟩
          by_cases e : i = j
          · subst e; rw [HY.out]; exact HPY.out
          · exact HNO.out i (by omega)
      · have HPY := Lib.hid hpy
        clear hpy hck hrj
        go_wp2_with fail
        go_ret
        refine ⟨_, rfl, ⟨_, rfl, ?_⟩, kk1⟩
        rw [(any_getD ll [] p).2 ⟨j, hlt, by rw [HY.out]; exact HPY.out⟩]
        exact decide_eq_true hj0
    · have hje : j = ll.length := by omega
      subst hje
      go_wp2_with fail
      go_ret
      refine ⟨_, rfl, ⟨_, rfl, ?_⟩, kk⟩
      cases e : ll.any p
      · rfl
      · obtain ⟨i, hi, hpi⟩ := (any_getD ll [] p).1 e
        rw [HNO.out i hi] at hpi; cases hpi

set_option maxRecDepth 100000 in
set_option maxHeartbeats 1000000 in
theorem ContainsFuncR_any (A : Nat → Prop) (v : Value) (ll : List (List Int)) (w : World) (h : RII A w v ll) (f : FuncId) (c0 : Value) (p : List Int → Bool)
    (hcf : ∀ x (w : World), (callFunc f #[x, c0]).run Tryz.prog w = .ok (.enter f #[x, c0]) w)
    (hp : ∀ (i : Nat) (xv : Value) (W : World), i < ll.length → Chg No w W → RI A W xv (ll.getD i []) → Calls Tryz.prog f #[xv, c0] W (Ret fun r w' => r = .bool (p (ll.getD i [])) ∧ Chg No W w')) :
    Calls Tryz.prog 85 #[v, .func (.func f) #[] #[c0]] w (Ret fun r w' => r = .bool (ll.any p) ∧ Chg No w w') := by
  have HP := Lib.hid hp
  clear hp
  have HC := Lib.hid hcf
  clear hcf
  obtain ⟨a, cap, rfl, _⟩ := h.view
  go_enter Tryz.func85, Tryz.ntmps85
  go_wp2_with fail
  refine (IndexFuncR_any A _ ll w h f c0 p HC.out HP.out).mono ?_
  rintro e w' ⟨_, rfl, ⟨i, rfl, hi⟩, k1⟩
  have HI := Lib.hid hi
  clear hi
  go_wp2_with fail
  go_ret
  exact ⟨_, rfl, by rw [← HI.out]; rfl, k1⟩

/-- boxes made one behind the other -/
theorem bx1 {w : World} {xs : Array Value} {T : TypeId} {R : World → Prop} (h : ∀ W, Chg No w W → BoxN W w.heap.size xs.toList → R W) : R (w.alloc (.cells xs T)) :=
  h _ ((Chg.refl No w).alloc _) (BoxN.new w xs T)
theorem bx2 {w : World} {xs ys : Array Value} {T U : TypeId} {R : World → Prop} (h : ∀ W, Chg No w W → BoxN W w.heap.size xs.toList → BoxN W (w.heap.size + 1) ys.toList → R W) : R ((w.alloc (.cells xs T)).alloc (.cells ys U)) := by
  have b := BoxN.new (w.alloc (.cells xs T)) ys U
  rw [show (w.alloc (.cells xs T)).heap.size = w.heap.size + 1 by simp] at b
  exact h _ (((Chg.refl No w).alloc _).alloc _) ((BoxN.new w xs T).keep ((Chg.refl No _).alloc _)) b
theorem BoxN.set {w : World} {b : Nat} {vs : List Value} (h : BoxN w b vs) {i : Nat} (hi : i < vs.length) (x : Value) : BoxN (w.setCell ⟨b, i, none⟩ x) b (vs.set i x) := by
  refine ⟨fun j v hj => ?_, fun o => (World.frozen?_setCell _ _ _ _).trans (h.fr o), by have := h.lt; simpa [World.setCell] using this⟩
  rw [List.getElem?_set] at hj
  by_cases e : i = j
  · subst e
    rw [if_pos rfl, if_pos hi] at hj
    cases hj
    exact World.cell?_setCell_same _ _ _ (h.c i (vs[i]) (by rw [List.getElem?_eq_getElem hi]))
  · rw [if_neg e] at hj
    exact (World.cell?_setCell_other _ _ _ _ (fun e' => e (by simpa using e'.symm))).trans (h.c j v hj)
theorem BoxN.far {w : World} {b : Nat} {vs : List Value} (h : BoxN w b vs) (p : Addr) (x : Value) (hp : p.block ≠ b) : BoxN (w.setCell p x) b vs :=
  h.step (S := fun k => k = p.block) ((Chg.refl (fun k => k = p.block) w).setCell (p := p) (fun _ => rfl) x) (fun e => hp e.symm)
theorem BoxN.alloc {w : World} {b : Nat} {vs : List Value} (h : BoxN w b vs) (o : Obj) : BoxN (w.alloc o) b vs := h.keep ((Chg.refl No w).alloc o)
end Go.Proofs.YtdgcohoneijleaaGreat
