import Derived.Test.YtndhijckbponkaaGreatDoorTh
/- Players in a row of the call's own: copied, marked, looked at -/
namespace Go.Proofs.YtndhijckbponkaaGreatDoor
open Go.RowKit

/-- Players in a row at block g, each list in a block of its own -/
structure PO (base g n : Nat) (ls : List Pl) (pf mf : Nat → Value) (w : World) : Prop where
  len : ls.length = n
  lt : g < w.heap.size
  low : base ≤ g
  fr : ∀ o, w.frozen? ⟨g, o, none⟩ = false
  cell : ∀ i, i < n → Cell7 w g (i * 7) (ls.getD i dPl) (pf i) (mf i)
  pg : ∀ i, i < n → OI base w (pf i) (ls.getD i dPl).ca.pages
  mq : ∀ i, i < n → OI base w (mf i) (ls.getD i dPl).ca.marks
  far : ∀ i, i < n → ∀ q, (own (pf i) q ∨ own (mf i) q) → q ≠ g
  apart : ∀ i, i < n → ∀ q, own (pf i) q → ¬ own (mf i) q
  dis : ∀ i j, i < n → j < n → i ≠ j → ∀ q, (own (pf i) q ∨ own (mf i) q) → ¬ (own (pf j) q ∨ own (mf j) q)
/-- its blocks -/
def FP (g n : Nat) (pf mf : Nat → Value) : Nat → Prop := fun q => q = g ∨ ∃ i, i < n ∧ (own (pf i) q ∨ own (mf i) q)
theorem PO.inF {base g n : Nat} {ls : List Pl} {pf mf : Nat → Value} {w : World} (h : PO base g n ls pf mf w) (q : Nat) (hq : FP g n pf mf q) : base ≤ q ∧ q < w.heap.size := by
  rcases hq with rfl | ⟨i, hi, hq | hq⟩
  · exact ⟨h.low, h.lt⟩
  · exact (h.pg i hi).lt q hq
  · exact (h.mq i hi).lt q hq
theorem PO.step {base g n : Nat} {ls : List Pl} {pf mf : Nat → Value} {w w' : World} {S : Nat → Prop} (h : PO base g n ls pf mf w) (hc : Chg S w w') (hS : ∀ q, FP g n pf mf q → ¬ S q) : PO base g n ls pf mf w' :=
  ⟨h.len, Nat.lt_of_lt_of_le h.lt hc.size, h.low, fun o => (hc.frozenD g o h.lt (hS g (.inl rfl))).trans (h.fr o), fun i hi => (h.cell i hi).step hc h.lt (hS g (.inl rfl)),
   fun i hi => (h.pg i hi).step hc (fun q hq => hS q (.inr ⟨i, hi, .inl hq⟩)), fun i hi => (h.mq i hi).step hc (fun q hq => hS q (.inr ⟨i, hi, .inr hq⟩)), h.far, h.apart, h.dis⟩
theorem PO.keep {base g n : Nat} {ls : List Pl} {pf mf : Nat → Value} {w w' : World} (h : PO base g n ls pf mf w) (hc : Chg No w w') : PO base g n ls pf mf w' := h.step hc (fun _ _ e => e)
theorem PO.read {base g n cap : Nat} {ls : List Pl} {pf mf : Nat → Value} {w : World} (h : PO base g n ls pf mf w) (hc : n ≤ cap) (hcap : cap ≤ 9223372036854775807) (hn : n ≤ 1048576) {A : Nat → Prop} (hA : ∀ q, FP g n pf mf q → ¬ A q) : RPS A w (.slice (some ⟨g, 0, none⟩) n cap) ls := by
  have e := h.len
  subst e
  refine ⟨_, cap, rfl, hc, hcap, hn, pf, mf, fun i hi => ⟨(h.pg i hi).read (fun q hq => hA q (.inr ⟨i, hi, .inl hq⟩)), (h.mq i hi).read (fun q hq => hA q (.inr ⟨i, hi, .inr hq⟩))⟩, fun _ => ⟨g, 0, rfl, hA g (.inl rfl), h.lt, fun i hi => ?_⟩⟩
  rw [Nat.zero_add]; exact h.cell i hi
theorem getD_setP (ls : List Pl) (j : Nat) (x : Pl) (hj : j < ls.length) (i : Nat) : (ls.set j x).getD i dPl = if i = j then x else ls.getD i dPl := by
  by_cases e : i = j
  · subst e; rw [if_pos rfl]; simp [List.getD_eq_getElem?_getD, hj]
  · rw [if_neg e]; simp [List.getD_eq_getElem?_getD, Ne.symm e]
/-- cells of one Player written -/
theorem PO.upd {base g n : Nat} {ls : List Pl} {pf mf : Nat → Value} {w w' : World} (h : PO base g n ls pf mf w) {j : Nat} (hj : j < n) (x' : Pl) (hp : x'.ca.pages = (ls.getD j dPl).ca.pages) (hm : x'.ca.marks = (ls.getD j dPl).ca.marks)
    (hc : Chg (fun q => q = g) w w') (hf : ∀ o, w'.frozen? ⟨g, o, none⟩ = false) (hoth : ∀ o, (o < j * 7 ∨ j * 7 + 7 ≤ o) → w'.cell? ⟨g, o, none⟩ = w.cell? ⟨g, o, none⟩) (h7 : Cell7 w' g (j * 7) x' (pf j) (mf j)) :
    PO base g n (ls.set j x') pf mf w' := by
  have hl := h.len
  refine ⟨by rw [List.length_set]; exact hl, Nat.lt_of_lt_of_le h.lt hc.size, h.low, hf, fun i hi => ?_, fun i hi => ?_, fun i hi => ?_, h.far, h.apart, h.dis⟩
  · rw [getD_setP ls j x' (by omega)]
    by_cases e : i = j
    · subst e; rw [if_pos rfl]; exact h7
    · rw [if_neg e]
      obtain ⟨c0, c1, c2, c3, c4, c5, c6⟩ := h.cell i hi
      have ho : ∀ r, r < 7 → w'.cell? ⟨g, i * 7 + r, none⟩ = w.cell? ⟨g, i * 7 + r, none⟩ := fun r hr => hoth _ (by omega)
      exact ⟨(ho 0 (by omega)).trans c0, (ho 1 (by omega)).trans c1, (ho 2 (by omega)).trans c2, (ho 3 (by omega)).trans c3, (ho 4 (by omega)).trans c4, (ho 5 (by omega)).trans c5, (ho 6 (by omega)).trans c6⟩
  · have e2 : ((ls.set j x').getD i dPl).ca.pages = (ls.getD i dPl).ca.pages := by
      rw [getD_setP ls j x' (by omega)]
      by_cases e : i = j
      · subst e; rw [if_pos rfl]; exact hp
      · rw [if_neg e]
    rw [e2]
    exact (h.pg i hi).step hc (fun q hq e => h.far i hi q (.inl hq) e)
  · have e2 : ((ls.set j x').getD i dPl).ca.marks = (ls.getD i dPl).ca.marks := by
      rw [getD_setP ls j x' (by omega)]
      by_cases e : i = j
      · subst e; rw [if_pos rfl]; exact hm
      · rw [if_neg e]
    rw [e2]
    exact (h.mq i hi).step hc (fun q hq e => h.far i hi q (.inr hq) e)
/-- the pages of one Player written -/
theorem PO.updP {base g n : Nat} {ls : List Pl} {pf mf : Nat → Value} {w w' : World} (h : PO base g n ls pf mf w) {j : Nat} (hj : j < n) {l' : List Int} (ho : OI base w' (pf j) l') (hc : Chg (own (pf j)) w w') :
    PO base g n (ls.set j { (ls.getD j dPl) with ca := { (ls.getD j dPl).ca with pages := l' } }) pf mf w' := by
  have hl := h.len
  have hng : ¬ own (pf j) g := fun e => h.far j hj g (.inl e) rfl
  refine ⟨by rw [List.length_set]; exact hl, Nat.lt_of_lt_of_le h.lt hc.size, h.low, fun o => (hc.frozenD g o h.lt hng).trans (h.fr o), fun i hi => ?_, fun i hi => ?_, fun i hi => ?_, h.far, h.apart, h.dis⟩
  · have h7 := (h.cell i hi).step hc h.lt hng
    rw [getD_setP ls j _ (by omega)]
    by_cases e : i = j
    · subst e; rw [if_pos rfl]; exact ⟨h7.c0, h7.c1, h7.c2, h7.c3, h7.c4, h7.c5, h7.c6⟩
    · rw [if_neg e]; exact h7
  · rw [getD_setP ls j _ (by omega)]
    by_cases e : i = j
    · subst e; rw [if_pos rfl]; exact ho
    · rw [if_neg e]; exact (h.pg i hi).step hc (fun q hq e2 => h.dis i j hi hj e q (.inl hq) (.inl e2))
  · have e2 : ((ls.set j { (ls.getD j dPl) with ca := { (ls.getD j dPl).ca with pages := l' } }).getD i dPl).ca.marks = (ls.getD i dPl).ca.marks := by
      rw [getD_setP ls j _ (by omega)]
      by_cases e : i = j
      · subst e; rw [if_pos rfl]
      · rw [if_neg e]
    rw [e2]
    by_cases e : i = j
    · subst e; exact (h.mq i hi).step hc (fun q hq e2 => h.apart i hi q e2 hq)
    · exact (h.mq i hi).step hc (fun q hq e2 => h.dis i j hi hj e q (.inr hq) (.inl e2))
/-- the marks of one Player written -/
theorem PO.updM {base g n : Nat} {ls : List Pl} {pf mf : Nat → Value} {w w' : World} (h : PO base g n ls pf mf w) {j : Nat} (hj : j < n) {l' : List Int} (ho : OI base w' (mf j) l') (hc : Chg (own (mf j)) w w') :
    PO base g n (ls.set j { (ls.getD j dPl) with ca := { (ls.getD j dPl).ca with marks := l' } }) pf mf w' := by
  have hl := h.len
  have hng : ¬ own (mf j) g := fun e => h.far j hj g (.inr e) rfl
  refine ⟨by rw [List.length_set]; exact hl, Nat.lt_of_lt_of_le h.lt hc.size, h.low, fun o => (hc.frozenD g o h.lt hng).trans (h.fr o), fun i hi => ?_, fun i hi => ?_, fun i hi => ?_, h.far, h.apart, h.dis⟩
  · have h7 := (h.cell i hi).step hc h.lt hng
    rw [getD_setP ls j _ (by omega)]
    by_cases e : i = j
    · subst e; rw [if_pos rfl]; exact ⟨h7.c0, h7.c1, h7.c2, h7.c3, h7.c4, h7.c5, h7.c6⟩
    · rw [if_neg e]; exact h7
  · have e2 : ((ls.set j { (ls.getD j dPl) with ca := { (ls.getD j dPl).ca with marks := l' } }).getD i dPl).ca.pages = (ls.getD i dPl).ca.pages := by
      rw [getD_setP ls j _ (by omega)]
      by_cases e : i = j
      · subst e; rw [if_pos rfl]
      · rw [if_neg e]
    rw [e2]
    by_cases e : i = j
    · subst e; exact (h.pg i hi).step hc (fun q hq e2 => h.apart i hi q hq e2)
    · exact (h.pg i hi).step hc (fun q hq e2 => h.dis i j hi hj e q (.inl hq) (.inr e2))
  · rw [getD_setP ls j _ (by omega)]
    by_cases e : i = j
    · subst e; rw [if_pos rfl]; exact ho
    · rw [if_neg e]; exact (h.mq i hi).step hc (fun q hq e2 => h.dis i j hi hj e q (.inr hq) (.inr e2))

/-- a Player marked from k on, and where the marks go on -/
def mkPl (k : Int) (x : Pl) : Pl :=
  ⟨k, { pol := k + 1, size := k + 2, pages := marks (k + 3) x.ca.pages.length, marks := marks (k + 3 + x.ca.pages.length) x.ca.marks.length, hand := k + 3 + x.ca.pages.length + x.ca.marks.length }, k + 3 + x.ca.pages.length + x.ca.marks.length + 1⟩
def szPl (x : Pl) : Nat := 5 + x.ca.pages.length + x.ca.marks.length
def totPl : List Pl → Nat
  | [] => 0
  | x :: ls => szPl x + totPl ls
/-- the first j Players marked -/
def mkTo (k : Int) (ls : List Pl) : Nat → List Pl
  | 0 => ls
  | j + 1 => (mkTo k ls j).set j (mkPl (k + totPl (ls.take j)) (ls.getD j dPl))
theorem totPl_snoc (ls : List Pl) (j : Nat) (hj : j < ls.length) : totPl (ls.take (j + 1)) = totPl (ls.take j) + szPl (ls.getD j dPl) := by
  have : ∀ (a : List Pl) (x : Pl), totPl (a ++ [x]) = totPl a + szPl x := fun a x => by
    induction a with
    | nil => simp [totPl]
    | cons y a ih => simp only [List.cons_append, totPl, ih]; omega
  rw [List.take_succ_eq_append_getElem hj, this, List.getD_eq_getElem?_getD, List.getElem?_eq_getElem hj]; rfl
theorem totPl_le (ls : List Pl) (j : Nat) : totPl (ls.take j) ≤ totPl ls := by
  induction ls generalizing j with
  | nil => simp [totPl]
  | cons x ls ih =>
    cases j with
    | zero => simp [totPl]
    | succ j => simp only [List.take_succ_cons, totPl]; have := ih j; omega
theorem mkTo_len (k : Int) (ls : List Pl) (j : Nat) : (mkTo k ls j).length = ls.length := by
  induction j with
  | zero => rfl
  | succ j ih => unfold mkTo; rw [List.length_set, ih]
theorem mkTo_above (k : Int) (ls : List Pl) (j : Nat) (hjl : j ≤ ls.length) : ∀ i, j ≤ i → (mkTo k ls j).getD i dPl = ls.getD i dPl := by
  induction j with
  | zero => intro i _; rfl
  | succ j ih =>
    intro i hi
    unfold mkTo
    rw [getD_setP _ _ _ (by rw [mkTo_len]; omega), if_neg (by omega)]
    exact ih (by omega) i (by omega)
theorem mkTo_below (k : Int) (ls : List Pl) (j : Nat) (hjl : j ≤ ls.length) : ∀ i, i < j → (mkTo k ls j).getD i dPl = mkPl (k + totPl (ls.take i)) (ls.getD i dPl) := by
  induction j with
  | zero => intro i hi; omega
  | succ j ih =>
    intro i hi
    unfold mkTo
    rw [getD_setP _ _ _ (by rw [mkTo_len]; omega)]
    by_cases e : i = j
    · subst e; rw [if_pos rfl]
    · rw [if_neg e]; exact ih (by omega) i (by omega)
theorem Cell7.s0 {w : World} {b o : Nat} {x : Pl} {pv mv : Value} (h : Cell7 w b o x pv mv) (v : Int) : Cell7 (w.setCell ⟨b, o, none⟩ (.int .i64 v)) b o { x with frm := v } pv mv :=
  ⟨World.cell?_setCell_same _ _ _ h.c0, (World.cell?_setCell_other _ _ _ _ (by simp)).trans h.c1, (World.cell?_setCell_other _ _ _ _ (by simp)).trans h.c2, (World.cell?_setCell_other _ _ _ _ (by simp)).trans h.c3, (World.cell?_setCell_other _ _ _ _ (by simp)).trans h.c4, (World.cell?_setCell_other _ _ _ _ (by simp)).trans h.c5, (World.cell?_setCell_other _ _ _ _ (by simp)).trans h.c6⟩
theorem Cell7.s1 {w : World} {b o : Nat} {x : Pl} {pv mv : Value} (h : Cell7 w b o x pv mv) (v : Int) : Cell7 (w.setCell ⟨b, o + 1, none⟩ (.int .i64 v)) b o { x with ca := { x.ca with pol := v } } pv mv :=
  ⟨(World.cell?_setCell_other _ _ _ _ (by simp)).trans h.c0, World.cell?_setCell_same _ _ _ h.c1, (World.cell?_setCell_other _ _ _ _ (by simp)).trans h.c2, (World.cell?_setCell_other _ _ _ _ (by simp)).trans h.c3, (World.cell?_setCell_other _ _ _ _ (by simp)).trans h.c4, (World.cell?_setCell_other _ _ _ _ (by simp)).trans h.c5, (World.cell?_setCell_other _ _ _ _ (by simp)).trans h.c6⟩
theorem Cell7.s2 {w : World} {b o : Nat} {x : Pl} {pv mv : Value} (h : Cell7 w b o x pv mv) (v : Int) : Cell7 (w.setCell ⟨b, o + 2, none⟩ (.int .i64 v)) b o { x with ca := { x.ca with size := v } } pv mv :=
  ⟨(World.cell?_setCell_other _ _ _ _ (by simp)).trans h.c0, (World.cell?_setCell_other _ _ _ _ (by simp)).trans h.c1, World.cell?_setCell_same _ _ _ h.c2, (World.cell?_setCell_other _ _ _ _ (by simp)).trans h.c3, (World.cell?_setCell_other _ _ _ _ (by simp)).trans h.c4, (World.cell?_setCell_other _ _ _ _ (by simp)).trans h.c5, (World.cell?_setCell_other _ _ _ _ (by simp)).trans h.c6⟩
theorem Cell7.s5 {w : World} {b o : Nat} {x : Pl} {pv mv : Value} (h : Cell7 w b o x pv mv) (v : Int) : Cell7 (w.setCell ⟨b, o + 5, none⟩ (.int .i64 v)) b o { x with ca := { x.ca with hand := v } } pv mv :=
  ⟨(World.cell?_setCell_other _ _ _ _ (by simp)).trans h.c0, (World.cell?_setCell_other _ _ _ _ (by simp)).trans h.c1, (World.cell?_setCell_other _ _ _ _ (by simp)).trans h.c2, (World.cell?_setCell_other _ _ _ _ (by simp)).trans h.c3, (World.cell?_setCell_other _ _ _ _ (by simp)).trans h.c4, World.cell?_setCell_same _ _ _ h.c5, (World.cell?_setCell_other _ _ _ _ (by simp)).trans h.c6⟩
theorem Cell7.s6 {w : World} {b o : Nat} {x : Pl} {pv mv : Value} (h : Cell7 w b o x pv mv) (v : Int) : Cell7 (w.setCell ⟨b, o + 6, none⟩ (.int .i64 v)) b o { x with fa := v } pv mv :=
  ⟨(World.cell?_setCell_other _ _ _ _ (by simp)).trans h.c0, (World.cell?_setCell_other _ _ _ _ (by simp)).trans h.c1, (World.cell?_setCell_other _ _ _ _ (by simp)).trans h.c2, (World.cell?_setCell_other _ _ _ _ (by simp)).trans h.c3, (World.cell?_setCell_other _ _ _ _ (by simp)).trans h.c4, (World.cell?_setCell_other _ _ _ _ (by simp)).trans h.c5, World.cell?_setCell_same _ _ _ h.c6⟩

theorem PO.put3 {base g n : Nat} {ls : List Pl} {pf mf : Nat → Value} {w : World} (h : PO base g n ls pf mf w) {j : Nat} (hj : j < n) {x : Pl} (hx : ls.getD j dPl = x) (a b c : Int) :
    PO base g n (ls.set j ⟨a, { x.ca with pol := b, size := c }, x.fa⟩) pf mf (((w.setCell ⟨g, j * 7, none⟩ (.int .i64 a)).setCell ⟨g, j * 7 + 1, none⟩ (.int .i64 b)).setCell ⟨g, j * 7 + 2, none⟩ (.int .i64 c)) ∧
    Chg (fun q => q = g) w (((w.setCell ⟨g, j * 7, none⟩ (.int .i64 a)).setCell ⟨g, j * 7 + 1, none⟩ (.int .i64 b)).setCell ⟨g, j * 7 + 2, none⟩ (.int .i64 c)) := by
  subst hx
  have hc : Chg (fun q => q = g) w (((w.setCell ⟨g, j * 7, none⟩ (.int .i64 a)).setCell ⟨g, j * 7 + 1, none⟩ (.int .i64 b)).setCell ⟨g, j * 7 + 2, none⟩ (.int .i64 c)) :=
    (((Chg.refl (fun q => q = g) w).setCell (p := ⟨g, j * 7, none⟩) (fun _ => rfl) _).setCell (p := ⟨g, j * 7 + 1, none⟩) (fun _ => rfl) _).setCell (p := ⟨g, j * 7 + 2, none⟩) (fun _ => rfl) _
  refine ⟨h.upd hj _ rfl rfl hc (fun o => by simp only [World.frozen?_setCell]; exact h.fr o) (fun o ho => ?_) ((((h.cell j hj).s0 a).s1 b).s2 c), hc⟩
  rw [World.cell?_setCell_other _ _ _ _ (by simp <;> omega), World.cell?_setCell_other _ _ _ _ (by simp <;> omega), World.cell?_setCell_other _ _ _ _ (by simp <;> omega)]
theorem PO.put2 {base g n : Nat} {ls : List Pl} {pf mf : Nat → Value} {w : World} (h : PO base g n ls pf mf w) {j : Nat} (hj : j < n) {x : Pl} (hx : ls.getD j dPl = x) (a b : Int) :
    PO base g n (ls.set j ⟨x.frm, { x.ca with hand := a }, b⟩) pf mf ((w.setCell ⟨g, j * 7 + 5, none⟩ (.int .i64 a)).setCell ⟨g, j * 7 + 6, none⟩ (.int .i64 b)) ∧
    Chg (fun q => q = g) w ((w.setCell ⟨g, j * 7 + 5, none⟩ (.int .i64 a)).setCell ⟨g, j * 7 + 6, none⟩ (.int .i64 b)) := by
  subst hx
  have hc : Chg (fun q => q = g) w ((w.setCell ⟨g, j * 7 + 5, none⟩ (.int .i64 a)).setCell ⟨g, j * 7 + 6, none⟩ (.int .i64 b)) :=
    ((Chg.refl (fun q => q = g) w).setCell (p := ⟨g, j * 7 + 5, none⟩) (fun _ => rfl) _).setCell (p := ⟨g, j * 7 + 6, none⟩) (fun _ => rfl) _
  refine ⟨h.upd hj _ rfl rfl hc (fun o => by simp only [World.frozen?_setCell]; exact h.fr o) (fun o ho => ?_) (((h.cell j hj).s5 a).s6 b), hc⟩
  rw [World.cell?_setCell_other _ _ _ _ (by simp <;> omega), World.cell?_setCell_other _ _ _ _ (by simp <;> omega)]
theorem getD_setS (ls : List Pl) (j : Nat) (x : Pl) (hj : j < ls.length) : (ls.set j x).getD j dPl = x := by rw [getD_setP ls j x hj, if_pos rfl]
set_option maxRecDepth 100000 in
set_option maxHeartbeats 2000000 in
theorem markPlayerS_any (base g n cap : Nat) (ls : List Pl) (pf mf : Nat → Value) (k : Int) (w : World) (h : PO base g n ls pf mf w) (hn : n ≤ 1048576) (hk : 0 ≤ k) (hk' : k + totPl ls ≤ 100000000) :
    Calls Tryz.prog 48 #[.slice (some ⟨g, 0, none⟩) n cap, .int .i64 k] w (Ret fun r w' => r = .int .i64 (k + totPl ls) ∧ PO base g n (mkTo k ls n) pf mf w' ∧ Chg (FP g n pf mf) w w') := by
  have hln := h.len
  have HLN := Lib.hid hln
  go_enter Tryz.func48, Tryz.ntmps48
  go_wp2_with fail
  go_loopw [1, 5] (fun kk z wr => ∃ j : Nat, j ≤ n ∧ z = .int .i64 (j : Int) ∧ kk = .int .i64 (k + totPl (ls.take j)) ∧ PO base g n (mkTo k ls j) pf mf wr ∧ Chg (FP g n pf mf) w wr) (fun _ z _ => n - (intOf z).toNat)
  case atStart => exact ⟨0, Nat.zero_le _, rfl, by simp [totPl], h, Chg.refl _ _⟩
  case round =>
    obtain ⟨j, hj, rfl, rfl, hO, hch⟩ := hrel
    have hj0 : (0 : Int) ≤ (j : Int) := Int.natCast_nonneg _
    by_cases hlt : j < n
    · have hj1 : (j : Int) < (n : Int) := by omega
      have hwj : IntKind.i64.wrap ((j : Int) + 1) = (j : Int) + 1 := IntWalk.i64_in _ (by omega)
      have hsn := totPl_snoc ls j (by omega)
      have hle := totPl_le ls (j + 1)
      have hab := mkTo_above k ls j (by omega) j (Nat.le_refl _)
      have hml := mkTo_len k ls j
      have hnx : mkTo k ls (j + 1) = (mkTo k ls j).set j (mkPl (k + totPl (ls.take j)) (ls.getD j dPl)) := rfl
      obtain ⟨x, hx⟩ : ∃ x, ls.getD j dPl = x := ⟨_, rfl⟩
      obtain ⟨L0, hL0⟩ : ∃ L0, mkTo k ls j = L0 := ⟨_, rfl⟩
      obtain ⟨K, hK⟩ : ∃ K : Int, k + totPl (ls.take j) = K := ⟨_, rfl⟩
      rw [hx] at hsn hab hnx
      rw [hL0] at hO hab hml hnx
      rw [hK] at hnx ⊢
      have hL0j : j < L0.length := by omega
      have hsz : szPl x = 5 + x.ca.pages.length + x.ca.marks.length := rfl
      have hKe : k + (totPl (ls.take (j + 1)) : Int) = K + 3 + x.ca.pages.length + x.ca.marks.length + 1 + 1 := by omega
      have hK0 : 0 ≤ K := by omega
      have hK1 : K + 5 + x.ca.pages.length + x.ca.marks.length ≤ 100000000 := by omega
      have HNX := Lib.hid hnx
      have HKE := Lib.hid hKe
      have hw1 : IntKind.i64.wrap (K + 1) = K + 1 := IntWalk.i64_in _ (by omega)
      have hw2 : IntKind.i64.wrap (K + 1 + 1) = K + 2 := (IntWalk.i64_in _ (by omega)).trans (by omega)
      have hw3 : IntKind.i64.wrap (K + 2 + 1) = K + 3 := (IntWalk.i64_in _ (by omega)).trans (by omega)
      obtain ⟨np, hnp⟩ : ∃ np, x.ca.pages.length = np := ⟨_, rfl⟩
      obtain ⟨nm, hnm⟩ : ∃ nm, x.ca.marks.length = nm := ⟨_, rfl⟩
      rw [hnp, hnm] at hK1 HKE
      have hw4 : IntKind.i64.wrap (K + 3 + (np : Int) + (nm : Int) + 1) = K + 3 + np + nm + 1 := IntWalk.i64_in _ (by omega)
      have hw5 : IntKind.i64.wrap (K + 3 + (np : Int) + (nm : Int) + 1 + 1) = K + 3 + np + nm + 1 + 1 := IntWalk.i64_in _ (by omega)
      have h7 := hO.cell j hlt
      have hpg := hO.pg j hlt
      have hmk := hO.mq j hlt
      rw [hab] at h7 hpg hmk
      obtain ⟨P1, kP1⟩ := hO.put3 hlt hab K (K + 1) (K + 2)
      have hf0 := hO.fr (j * 7)
      have hf1 := hO.fr (j * 7 + 1)
      have hf2 := hO.fr (j * 7 + 2)
      obtain ⟨pj, hpj⟩ : ∃ pj, pf j = pj := ⟨_, rfl⟩
      obtain ⟨mj, hmj⟩ : ∃ mj, mf j = mj := ⟨_, rfl⟩
      rw [hpj] at h7 hpg
      rw [hmj] at h7 hmk
      obtain ⟨pa, pc, rfl, _⟩ := id hpg.view
      obtain ⟨ma, mc, rfl, _⟩ := id hmk.view
      obtain ⟨c0, c1, c2, c3, c4, c5, c6⟩ := id h7
      have HP1 := Lib.hid P1
      have HKP1 := Lib.hid kP1
      have HPJ := Lib.hid hpj
      have HMJ := Lib.hid hmj
      clear hsn hle hab hml hnx hx hL0 hK hKe hpj hmj P1 kP1 hpg hmk h7
      go_wp2_with fail
      obtain ⟨wA, hwA⟩ : ∃ wA, (((wr.setCell ⟨g, j * 7, none⟩ (.int .i64 K)).setCell ⟨g, j * 7 + 1, none⟩ (.int .i64 (K + 1))).setCell ⟨g, j * 7 + 1 + 1, none⟩ (.int .i64 (K + 2))) = wA := ⟨_, rfl⟩
      have P1 : PO base g n (L0.set j ⟨K, { x.ca with pol := K + 1, size := K + 2 }, x.fa⟩) pf mf wA := hwA ▸ HP1.out
      have kP1 : Chg (fun q => q = g) wr wA := hwA ▸ HKP1.out
      rw [hwA]
      clear c0 c1 c2 c3 c4 c5 c6 hf0 hf1 hf2 HP1 HKP1 hwA
      have hg1 : ∀ y : Pl, (L0.set j y).getD j dPl = y := fun y => getD_setS L0 j y hL0j
      have pg1 := P1.pg j hlt
      rw [hg1, HPJ.out, hnp] at pg1
      have pg1 : OI base wA (.slice pa np pc) x.ca.pages := pg1
      rw [hnp] at HPJ
      rw [hnm] at HMJ
      refine (markIntS_any base _ _ (K + 3) wA pg1 (by omega)).mono ?_
      rintro e wB ⟨_, rfl, rfl, oB, kB⟩
      rw [hnp] at oB ⊢
      have P2 : PO base g n (L0.set j ⟨K, { x.ca with pol := K + 1, size := K + 2, pages := marks (K + 3) np }, x.fa⟩) pf mf wB := by
        have t := P1.updP hlt (HPJ.out.symm ▸ oB) (HPJ.out.symm ▸ kB)
        rw [hg1, List.set_set] at t
        exact t
      have h72 := P2.cell j hlt
      have mk2 := P2.mq j hlt
      rw [hg1, HMJ.out] at mk2
      have mk2 : OI base wB (.slice ma nm mc) x.ca.marks := mk2
      rw [hg1, HPJ.out, HMJ.out] at h72
      obtain ⟨c0, c1, c2, c3, c4, c5, c6⟩ := id h72
      have HP2 := Lib.hid P2
      have HK1 := Lib.hid kP1
      have HKB := Lib.hid kB
      clear P1 kP1 pg1 oB kB P2 h72
      go_wp2_with fail
      refine (markIntS_any base _ _ (K + 3 + np) wB mk2 (by omega)).mono ?_
      rintro e wC ⟨_, rfl, rfl, oC, kC⟩
      rw [hnm] at oC ⊢
      have P3 : PO base g n (L0.set j ⟨K, { x.ca with pol := K + 1, size := K + 2, pages := marks (K + 3) np, marks := marks (K + 3 + np) nm }, x.fa⟩) pf mf wC := by
        have t := HP2.out.updM hlt (HMJ.out.symm ▸ oC) (HMJ.out.symm ▸ kC)
        rw [hg1, List.set_set] at t
        exact t
      have h73 := P3.cell j hlt
      obtain ⟨c0, c1, c2, c3, c4, c5, c6⟩ := id h73
      obtain ⟨P4, kP4⟩ := P3.put2 hlt (hg1 _) (K + 3 + np + nm) (K + 3 + np + nm + 1)
      rw [List.set_set] at P4
      have hf5 := P3.fr (j * 7 + 5)
      have hf6 := P3.fr (j * 7 + 6)
      have HP4 := Lib.hid P4
      have HK4 := Lib.hid kP4
      have HKC := Lib.hid kC
      clear mk2 oC P3 kC h73 P4 kP4
      go_wp2_with fail
      go_round
      case measure => simp [intOf]; omega
      case rel =>
        have hlist : mkTo k ls (j + 1) = L0.set j (mkPl K x) := HNX.out
        have hsub : ∀ q, q = g ∨ own (.slice pa np pc) q ∨ own (.slice ma nm mc) q → FP g n pf mf q := fun q hq => by
          rcases hq with rfl | hq | hq
          · exact .inl rfl
          · exact .inr ⟨j, hlt, .inl (HPJ.out.symm ▸ hq)⟩
          · exact .inr ⟨j, hlt, .inr (HMJ.out.symm ▸ hq)⟩
        refine ⟨j + 1, by omega, by go_num, by rw [HKE.out], ?_, ?_⟩
        · rw [hlist]
          have e : mkPl K x = ⟨K, { x.ca with pol := K + 1, size := K + 2, pages := marks (K + 3) np, marks := marks (K + 3 + np) nm, hand := K + 3 + np + nm }, K + 3 + np + nm + 1⟩ := by unfold mkPl; rw [hnp, hnm]
          rw [e]
          exact HP4.out
        · exact (((hch.trans (HK1.out.mono fun q hq _ => hsub q (.inl hq))).trans (HKB.out.mono fun q hq _ => hsub q (.inr (.inl hq)))).trans (HKC.out.mono fun q hq _ => hsub q (.inr (.inr hq)))).trans (HK4.out.mono fun q hq _ => hsub q (.inl hq))
    · have hje : j = n := by omega
      subst hje
      have he : ls.take j = ls := List.take_of_length_le (by rw [HLN.out]; exact Nat.le_refl _)
      rw [he]
      go_wp2_with fail
      go_ret
      exact ⟨_, rfl, rfl, hO, hch⟩
end Go.Proofs.YtndhijckbponkaaGreatDoor
