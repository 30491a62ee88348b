import Derived.Test.YtdgcohoneijleaaGreatDoorNa
import Derived.Test.YtdgcohoneijleaaGreatDoorPkX20
import Derived.Test.YtdgcohoneijleaaGreatDoorUi
import Derived.Test.YtdgcohoneijleaaGreatDoorPkX24
namespace Go.Proofs.YtdgcohoneijleaaGreatDoor
open Go.RowKit
theorem TA.stepS {base : Nat} {w w' : World} {v : Value} {t : To} {S : Nat → Prop} (h : TA base w v t) (hc : Chg S w w') (hS : ∀ q, base ≤ q → ¬ S q) : TA base w' v t := by
 obtain ⟨pv, pf, mf, rv, h1, h2, h3, h4⟩ := h
 exact ⟨pv, pf, mf, rv, h1, h2.step hc (fun q hq => hS q (h2.inF q hq).1), h3.step hc (fun q hq => hS q (h3.lt q hq).1), h4⟩
structure TuD (b B K R X bs : Nat) (w W : World) (t : To) (p1 : Option Addr) (p2 p3 : Nat) (r1 : Option Addr) (r2 r3 : Nat) : Prop where
 cur : Cur W b B K
 chg : Chg (fun q => q = b) w W
 br : Box3 W R (.int .i64 0) (.slice none 0 0) (.slice none 0 0)
 bx : Box3 W X (.int .i64 t.items) (.slice p1 p2 p3) (.slice r1 r2 r3)
 ta : TA bs W (.agg #[.int .i64 t.items, .slice p1 p2 p3, .slice r1 r2 r3]) t
 far : b < B ∧ B ≤ w.heap.size ∧ w.heap.size ≤ R ∧ R < X ∧ B ≤ bs
theorem TuD.call {b B K K' R X bs : Nat} {w W W' : World} {t : To} {p1 : Option Addr} {p2 p3 : Nat} {r1 : Option Addr} {r2 r3 : Nat} (h : TuD b B K R X bs w W t p1 p2 p3 r1 r2 r3) (hc : Cur W' b B K') (hk : Chg (fun q => q = b) W W') : TuD b B K' R X bs w W' t p1 p2 p3 r1 r2 r3 := by
 have hf := h.far
 exact ⟨hc, h.chg.trans hk, h.br.step hk (by omega), h.bx.step hk (by omega), h.ta.stepS hk (fun q hq e => by omega), hf⟩
theorem TuD.keep {b B K R X bs : Nat} {w W W' : World} {t : To} {p1 : Option Addr} {p2 p3 : Nat} {r1 : Option Addr} {r2 r3 : Nat} (h : TuD b B K R X bs w W t p1 p2 p3 r1 r2 r3) (hk : Chg No W W') : TuD b B K R X bs w W' t p1 p2 p3 r1 r2 r3 :=
 h.call (h.cur.keep hk) ((Chg.refl (fun q => q = b) W).step hk (fun _ e _ => e.elim))
theorem TuD.put {b B K R X bs : Nat} {w W : World} {t t' : To} {p1 : Option Addr} {p2 p3 : Nat} {r1 : Option Addr} {r2 r3 : Nat} {q1 : Option Addr} {q2 q3 : Nat} {s1 : Option Addr} {s2 s3 : Nat} (h : TuD b B K R X bs w W t p1 p2 p3 r1 r2 r3)
  (ht : TA (X + 1) W (.agg #[.int .i64 t'.items, .slice q1 q2 q3, .slice s1 s2 s3]) t') : TuD b B K R X (X + 1) w (((W.setCell ⟨X, 0, none⟩ (.int .i64 t'.items)).setCell ⟨X, 1, none⟩ (.slice q1 q2 q3)).setCell ⟨X, 2, none⟩ (.slice s1 s2 s3)) t' q1 q2 q3 s1 s2 s3 := by
 have hf := h.far
 have ch := (Chg.refl (fun q => q = X) W).put3 (b := X) (fun _ => rfl) (.int .i64 t'.items) (.slice q1 q2 q3) (.slice s1 s2 s3)
 exact ⟨h.cur.step ch (fun q hq => by omega), h.chg.step ch (fun q hq hl => by omega), h.br.step ch (by omega), ((h.bx.set0 _).set1 _).set2 _, ht.stepS ch (fun q hq e => by omega), by omega⟩
theorem TuD.fin {b B K R X : Nat} {w W : World} {t : To} {v0 v1 v2 : Value} (cur : Cur W b B K) (chg : Chg (fun q => q = b) w W) (hf : b < B ∧ B ≤ w.heap.size ∧ w.heap.size ≤ R ∧ R < X)
  (hr : RT (fun q => q ≤ R) W (.agg #[v0, v1, v2]) t) :
  RT (fun q => q < R) (((W.setCell ⟨R, 0, none⟩ v0).setCell ⟨R, 1, none⟩ v1).setCell ⟨R, 2, none⟩ v2) (.agg #[v0, v1, v2]) t ∧ Cur (((W.setCell ⟨R, 0, none⟩ v0).setCell ⟨R, 1, none⟩ v1).setCell ⟨R, 2, none⟩ v2) b B K ∧ Chg (fun q => q = b) w (((W.setCell ⟨R, 0, none⟩ v0).setCell ⟨R, 1, none⟩ v1).setCell ⟨R, 2, none⟩ v2) := by
 have ch := (Chg.refl (fun q => q = R) W).put3 (b := R) (fun _ => rfl) v0 v1 v2
 obtain ⟨pv, rv, he, h1, h2⟩ := hr
 exact ⟨⟨pv, rv, he, (h1.step ch (fun q e => by have e : q = R := e; show q ≤ R; omega)).weak (fun q e _ => Nat.le_of_lt e), (h2.step ch (fun q e => by have e : q = R := e; show q ≤ R; omega)).weak (fun q e _ => Nat.le_of_lt e)⟩, cur.step ch (fun q hq => by omega), chg.step ch (fun q hq hl => by omega)⟩
theorem Cell7.putF {w : World} {g : Nat} {y : Pl} {pv mv : Value} (h : Cell7 w g 0 y pv mv) (F : Int) : Cell7 (w.setCell ⟨g, 6, none⟩ (.int .i64 F)) g 0 ⟨y.frm, y.ca, F⟩ pv mv :=
 ⟨(World.cell?_setCell_other _ _ _ _ (by simp)).trans h.c0, (World.cell?_setCell_other _ _ _ _ (by simp)).trans h.c1, (World.cell?_setCell_other _ _ _ _ (by simp)).trans h.c2, (World.cell?_setCell_other _ _ _ _ (by simp)).trans h.c3, (World.cell?_setCell_other _ _ _ _ (by simp)).trans h.c4, (World.cell?_setCell_other _ _ _ _ (by simp)).trans h.c5, World.cell?_setCell_same _ _ _ h.c6⟩
theorem Cell7.put0 {w : World} {g : Nat} {y : Pl} {pv mv : Value} (h : Cell7 w g 0 y pv mv) (F : Int) : Cell7 (w.setCell ⟨g, 0, none⟩ (.int .i64 F)) g 0 ⟨F, y.ca, y.fa⟩ pv mv :=
 ⟨World.cell?_setCell_same _ _ _ h.c0, (World.cell?_setCell_other _ _ _ _ (by simp)).trans h.c1, (World.cell?_setCell_other _ _ _ _ (by simp)).trans h.c2, (World.cell?_setCell_other _ _ _ _ (by simp)).trans h.c3, (World.cell?_setCell_other _ _ _ _ (by simp)).trans h.c4, (World.cell?_setCell_other _ _ _ _ (by simp)).trans h.c5, (World.cell?_setCell_other _ _ _ _ (by simp)).trans h.c6⟩
theorem Cell7.putC {w : World} {g : Nat} {y : Pl} {pv mv : Value} (h : Cell7 w g 0 y pv mv) (c : Ca) (pv' mv' : Value) :
  Cell7 (((((w.setCell ⟨g, 1, none⟩ (.int .i64 c.pol)).setCell ⟨g, 2, none⟩ (.int .i64 c.size)).setCell ⟨g, 3, none⟩ pv').setCell ⟨g, 4, none⟩ mv').setCell ⟨g, 5, none⟩ (.int .i64 c.hand)) g 0 ⟨y.frm, c, y.fa⟩ pv' mv' := by
 have oth : ∀ (W : World) (i j : Nat) (v u : Value), i ≠ j → W.cell? ⟨g, j, none⟩ = some u → (W.setCell ⟨g, i, none⟩ v).cell? ⟨g, j, none⟩ = some u := fun W i j v u hij hc => (World.cell?_setCell_other _ _ _ _ (by simp <;> omega)).trans hc
 refine ⟨?_, ?_, ?_, ?_, ?_, ?_, ?_⟩
 ·exact oth _ _ _ _ _ (by omega) (oth _ _ _ _ _ (by omega) (oth _ _ _ _ _ (by omega) (oth _ _ _ _ _ (by omega) (oth _ _ _ _ _ (by omega) h.c0))))
 ·exact oth _ _ _ _ _ (by omega) (oth _ _ _ _ _ (by omega) (oth _ _ _ _ _ (by omega) (oth _ _ _ _ _ (by omega) (World.cell?_setCell_same _ _ _ h.c1))))
 ·exact oth _ _ _ _ _ (by omega) (oth _ _ _ _ _ (by omega) (oth _ _ _ _ _ (by omega) (World.cell?_setCell_same _ _ _ (oth _ _ _ _ _ (by omega) h.c2))))
 ·exact oth _ _ _ _ _ (by omega) (oth _ _ _ _ _ (by omega) (World.cell?_setCell_same _ _ _ (oth _ _ _ _ _ (by omega) (oth _ _ _ _ _ (by omega) h.c3))))
 ·exact oth _ _ _ _ _ (by omega) (World.cell?_setCell_same _ _ _ (oth _ _ _ _ _ (by omega) (oth _ _ _ _ _ (by omega) (oth _ _ _ _ _ (by omega) h.c4))))
 ·exact World.cell?_setCell_same _ _ _ (oth _ _ _ _ _ (by omega) (oth _ _ _ _ _ (by omega) (oth _ _ _ _ _ (by omega) (oth _ _ _ _ _ (by omega) h.c5))))
 ·exact oth _ _ _ _ _ (by omega) (oth _ _ _ _ _ (by omega) (oth _ _ _ _ _ (by omega) (oth _ _ _ _ _ (by omega) (oth _ _ _ _ _ (by omega) h.c6))))
theorem OI.oneC {base : Nat} {w : World} {v : Value} {l : List Int} (h : OI base w v l) : v.oneCell' = true := by
 obtain ⟨a, n, c, rfl⟩ := h.shape
 rfl
theorem rowC_one (ls : List Pl) (pf mf : Nat → Value) (n : Nat) (h : ∀ i, i < n → (pf i).oneCell' = true ∧ (mf i).oneCell' = true) : ∀ u ∈ rowC ls pf mf n, u.oneCell' = true := by
 induction n with
 | zero => intro u hu; simp [rowC] at hu
 | succ n ih =>
  intro u hu
  simp only [rowC, List.mem_append] at hu
  rcases hu with hu | hu
  ·exact ih (fun i hi => h i (by omega)) u hu
  ·have hn := h n (by omega)
   simp only [plC, List.mem_cons, List.not_mem_nil, or_false] at hu
   rcases hu with rfl | rfl | rfl | rfl | rfl | rfl | rfl
   ·rfl
   ·rfl
   ·rfl
   ·exact hn.1
   ·exact hn.2
   ·rfl
   ·rfl
theorem triple_row (ls : List Pl) (pf mf : Nat → Value) (φ : Nat → Value → Value → Prop) (h : ∀ i, i < ls.length → φ i (pf i) (mf i)) :
  ∃ PF MF : Nat → Value, rowC ls pf mf ls.length ++ rowC ls pf mf ls.length ++ rowC ls pf mf ls.length = rowC (ls ++ ls ++ ls) PF MF (ls ++ ls ++ ls).length ∧
   ∀ i, i < (ls ++ ls ++ ls).length → ∃ i', i' < ls.length ∧ (ls ++ ls ++ ls).getD i dPl = ls.getD i' dPl ∧ φ i' (PF i) (MF i) := by
 have e1 := rowC_app ls ls pf mf pf mf ls.length
 have e2 := rowC_app (ls ++ ls) ls (fun i => if i < ls.length then pf i else pf (i - ls.length)) (fun i => if i < ls.length then mf i else mf (i - ls.length)) pf mf ls.length
 refine ⟨_, _, by rw [e1, ← List.length_append, e2, ← List.length_append], fun i hi => ?_⟩
 simp only [List.length_append] at hi ⊢
 by_cases h1 : i < ls.length
 ·refine ⟨i, h1, by rw [getD_appL, if_pos (by rw [List.length_append]; omega), getD_appL, if_pos h1], ?_⟩
  have h12 : i < ls.length + ls.length := by omega
  simp only [if_pos h12, if_pos h1]
  exact h i h1
 ·by_cases h2 : i < ls.length + ls.length
  ·refine ⟨i - ls.length, by omega, by rw [getD_appL, if_pos (by rw [List.length_append]; omega), getD_appL, if_neg h1], ?_⟩
   simp only [if_pos h2, if_neg h1]
   exact h _ (by omega)
  ·refine ⟨i - (ls.length + ls.length), by omega, by rw [getD_appL, if_neg (by rw [List.length_append]; omega), List.length_append], ?_⟩
   simp only [if_neg h2]
   exact h _ (by omega)
theorem PA.readS {base : Nat} {w w' : World} {v : Value} {ls : List Pl} {pf mf : Nat → Value} {S A : Nat → Prop} (h : PA base w v ls pf mf) (hn : ls.length ≤ 1048576) (hc : Chg S w w') (hS : ∀ q, base ≤ q → ¬ S q) (hA : ∀ q, base ≤ q → ¬ A q) : RPS A w' v ls :=
 (h.step hc (fun q hq => hS q (h.inF q hq).1)).read hn (fun q hq => hA q (h.inF q hq).1)
theorem OI.readS {base : Nat} {w w' : World} {v : Value} {l : List Int} {S A : Nat → Prop} (h : OI base w v l) (hc : Chg S w w') (hS : ∀ q, base ≤ q → ¬ S q) (hA : ∀ q, base ≤ q → ¬ A q) : RI A w' v l :=
 (h.step hc (fun q hq => hS q (h.lt q hq).1)).read (fun q hq => hA q (h.lt q hq).1)
theorem join_first (r p k : Int) (hr : r ∈ [3, 4, 5, 6, 2, 8, 1]) (hp : 1 ≤ p ∧ p ≤ 7) (hk : k ∈ [1, 2, 2, 3, 3, 4, 6]) : tourB (joinT ⟨r, [], []⟩ p k) = true := by
 have h8 : 1 ≤ r ∧ r ≤ 8 := by simp only [List.mem_cons, List.not_mem_nil, or_false] at hr; omega
 have h6 : 1 ≤ k ∧ k ≤ 6 := by simp only [List.mem_cons, List.not_mem_nil, or_false] at hk; omega
 have h0 : tourB ⟨r, [], []⟩ = true := by
  have : inB r 1 8 = true := inB_iff.2 h8
  simp [tourB, reqB, belowB, this]
 have := tour_step h0 1 p k (by
  unfold okStep okJoin
  rw [if_pos rfl]
  simp only [Bool.and_eq_true, decide_eq_true_eq, inB_iff]
  exact ⟨hp, h6, by simp⟩)
 unfold stepT at this
 rw [if_pos rfl] at this
 exact this
set_option maxRecDepth 100000 in
set_option maxHeartbeats 16000000 in
theorem tour_any (b B K : Nat) (w : World) (h : Cur w b B K) (hB : B ≤ w.heap.size) (hK : K ≤ 700000000) :
  Calls Tryz.prog 55 #[.pointer (some ⟨b, 0, none⟩)] w fun e w' => ∃ (v : Value) (t : To), e = .returned v ∧ RT (fun q => q < w.heap.size) w' v t ∧ t.ps.length ≤ 12 ∧ t.reqs.length ≤ 61 ∧ Cur w' b B (K + 3000) ∧ Chg (fun q => q = b) w w' := by
 have hb := h.lt
 have hbB := h.ltB
 obtain ⟨k0, b0⟩ := box31 (w := w) (t := 31) (x0 := .int .i64 0) (x1 := .slice none 0 0) (x2 := .slice none 0 0)
  (R := fun W => Chg No w W ∧ Box3 W w.heap.size (.int .i64 0) (.slice none 0 0) (.slice none 0 0)) (fun W k b0 => ⟨k, b0⟩)
 have hc := h.keep k0
 clear h
 go_enter Tryz.func55, Tryz.ntmps55
 go_wp2_with fail
 refine (among_lit b B K _ [3, 4, 5, 6, 2, 8, 1] _ _ _ _ _ (by simp) rfl rfl rfl hc (by omega) (by decide) (by decide)).mono ?_
 rintro e w1 ⟨r, rfl, hr, hc1, hk1⟩
 have hRl : w.heap.size < w1.heap.size := by have := b0.lt; have := hk1.size; omega
 have ch1 := ((Chg.refl (fun q => q = b) w).step k0 (fun _ e _ => e.elim)).trans hk1
 have b1 := b0.step hk1 (by omega)
 clear k0 b0 hc hk1
 obtain ⟨G1, hG1⟩ : ∃ G, w1.heap.size = G := ⟨_, rfl⟩
 have hP : PA (w.heap.size + 1) (w1.alloc (.cells #[] 68)) (.slice (some ⟨G1, 0, none⟩) 0 0) [] (fun _ => undef) (fun _ => undef) := hG1 ▸ PA.nil _ _ (OS.zero (by omega)) _ _
 have hsz : (w1.alloc (.cells #[] 68)).heap.size = G1 + 1 := by rw [World.size_alloc, hG1]
 have hO : OI (w.heap.size + 1) ((w1.alloc (.cells #[] 68)).alloc (.cells #[] 3)) (.slice (some ⟨G1 + 1, 0, none⟩) 0 0) [] := by
  have := OI.zero (base := w.heap.size + 1) (w := w1.alloc (.cells #[] 68)) (by omega)
  rw [hsz] at this
  exact this
 have ka := (Chg.refl No w1).alloc (.cells #[] 68)
 have kb := (Chg.refl No (w1.alloc (.cells #[] 68))).alloc (.cells #[] 3)
 have hsz2 : ((w1.alloc (.cells #[] 68)).alloc (.cells #[] 3)).heap.size = G1 + 1 + 1 := by rw [World.size_alloc, hsz]
 have kc := (Chg.refl No ((w1.alloc (.cells #[] 68)).alloc (.cells #[] 3))).alloc (.cells #[.int .i64 r, .slice (some ⟨G1, 0, none⟩) 0 0, .slice (some ⟨G1 + 1, 0, none⟩) 0 0] 31)
 have bX := Box3.new ((w1.alloc (.cells #[] 68)).alloc (.cells #[] 3)) (.int .i64 r) (.slice (some ⟨G1, 0, none⟩) 0 0) (.slice (some ⟨G1 + 1, 0, none⟩) 0 0) 31
 rw [hsz2] at bX
 have kt := (ka.trans kb).trans kc
 have h : TuD b B (K + 2) w.heap.size (G1 + 1 + 1) (w.heap.size + 1) w (((w1.alloc (.cells #[] 68)).alloc (.cells #[] 3)).alloc (.cells #[.int .i64 r, .slice (some ⟨G1, 0, none⟩) 0 0, .slice (some ⟨G1 + 1, 0, none⟩) 0 0] 31)) ⟨r, [], []⟩ (some ⟨G1, 0, none⟩) 0 0 (some ⟨G1 + 1, 0, none⟩) 0 0 :=
  ⟨hc1.keep kt, ch1.step kt (fun _ e _ => e.elim), b1.keep kt, bX, ⟨_, _, _, _, rfl, (hP.keep kb).keep kc, hO.keep kc, fun q hq e => by
   rcases hq with hq | ⟨i, hi, _⟩
   ·rw [own_slice] at hq e; omega
   ·exact absurd hi (Nat.not_lt_zero i)⟩, by omega⟩
 clear hP hO ka kb kc kt bX hsz hsz2 b1 ch1 hc1
 go_wp2_with fail
 clear hG1
 refine wp_cut (fun a' w' => ∃ (t0 : To) (n1 : Option Addr) (n2 n3 : Nat) (s1 : Option Addr) (s2 s3 : Nat) (x y : Int) (G : Nat), a' = { tmps := #[.pointer (some ⟨b, 0, none⟩), undef, .pointer (some ⟨w.heap.size, 0, none⟩), .pointer (some ⟨G1 + 1 + 1, 0, none⟩), undef, undef, .pointer (some ⟨b, 0, none⟩), .slice (some ⟨w.heap.size + 1, 0, none⟩) 7 7, .int .i64 r, .slice (some ⟨G1, 0, none⟩) 0 0, .slice (some ⟨G1 + 1, 0, none⟩) 0 0, .agg #[.int .i64 r, .slice (some ⟨G1, 0, none⟩) 0 0, .slice (some ⟨G1 + 1, 0, none⟩) 0 0], .agg #[.int .i64 r, .slice (some ⟨G1, 0, none⟩) 0 0, .slice (some ⟨G1 + 1, 0, none⟩) 0 0], .pointer (some ⟨b, 0, none⟩), .int .i64 x, .int .i64 (1 + x), .pointer (some ⟨b, 0, none⟩), .slice (some ⟨G, 0, none⟩) 7 7, .int .i64 y, .agg #[.int .i64 t0.items, .slice n1 n2 n3, .slice s1 s2 s3], undef, undef, undef, undef, undef, undef, undef, undef, undef, undef, undef, undef, undef, undef, undef, undef, undef, undef, undef, undef, undef, undef, undef, undef, undef, undef, undef, undef, undef, undef, undef, undef, undef, undef, undef, undef, undef, undef, undef, undef, undef, undef, undef, undef, undef, undef, undef, undef, undef, undef, undef, undef, undef, undef, undef, undef, undef, undef, undef, undef, undef, undef, undef, undef, undef, undef, undef, undef, undef, undef, undef, undef, undef, undef, undef, undef, undef, undef, undef, undef, undef, undef, undef, undef, undef, undef, undef, undef, undef, undef, undef, undef, undef, undef, undef, undef, undef, undef, undef, undef, undef], defers := [] } ∧ tourB t0 = true ∧ TuD b B (K + 2 + 2 + 2) w.heap.size (G1 + 1 + 1) (G1 + 1 + 1 + 1) w w' t0 n1 n2 n3 s1 s2 s3) ?_ ?_
 ·refine wp_region_K (S := fun W => W.cell? ⟨G1 + 1 + 1, 0, none⟩ = some (.int .i64 r) ∧ W.cell? ⟨G1 + 1 + 1, 1, none⟩ = some (.slice (some ⟨G1, 0, none⟩) 0 0) ∧ W.cell? ⟨G1 + 1 + 1, 2, none⟩ = some (.slice (some ⟨G1 + 1, 0, none⟩) 0 0)) (k := 8) (by kernel_rfl) ?_
  replace h := h.keep (drewN0 _)
  generalize World.drew _ = WQ at h ⊢
  have hS : WQ.cell? ⟨G1 + 1 + 1, 0, none⟩ = some (.int .i64 r) ∧ WQ.cell? ⟨G1 + 1 + 1, 1, none⟩ = some (.slice (some ⟨G1, 0, none⟩) 0 0) ∧ WQ.cell? ⟨G1 + 1 + 1, 2, none⟩ = some (.slice (some ⟨G1 + 1, 0, none⟩) 0 0) := ⟨h.bx.c0, h.bx.c1, h.bx.c2⟩
  refine wpAnyK_takeT 0 (.agg #[.int .i64 r, .slice (some ⟨G1, 0, none⟩) 0 0, .slice (some ⟨G1 + 1, 0, none⟩) 0 0]) rfl (by kernel_rfl) (fun _ _ _ h => h) hS rfl (by intro w hSw; go_simp) ?_
  simp only [zA, zC, zD, zE, zF, zG]
  refine wpAnyK_take0 1 (.pointer (some ⟨b, 0, none⟩)) rfl (by kernel_rfl) (fun _ _ _ h => h) hS rfl (by intro w; go_simp) ?_
  simp only [zA, zB, zC, zD, zE, zF, zG]
  refine wpAnyK_take0 4 (.pointer (some ⟨b, 0, none⟩)) rfl (by kernel_rfl) (fun _ _ _ h => h) hS rfl (by intro w; go_simp) ?_
  simp only [zA, zB, zC, zD, zE, zF, zG]
  refine wpAnyK_2 2 5 (by kernel_rfl) (wpOpK' rfl rfl ?_) (wpOpK' rfl rfl ?_)
  ·skip
   intro K0 hK0
   refine ocallE (f := 52) (args := #[.pointer (some ⟨b, 0, none⟩), .int .i64 7]) (φ := fun v W' => ∃ x : Int, v = .int .i64 x ∧ 0 ≤ x ∧ x ≤ 6 ∧ Cur W' b B (K + 2 + 2) ∧ Chg (fun q => q = b) WQ W') (by go_simp) ((pick_any b B (K + 2) 7 WQ h.cur (by omega) (by omega)).mono (fun e W' ⟨x, h1, h2, h3, _, h5, h6⟩ => ⟨_, h1, x, rfl, h2, by have := h3 (by omega); omega, h5, h6⟩)) (fun v2 W2 h2 => hK0.out _ _ (by obtain ⟨x, _, _, _, q1, q2⟩ := h2; have g := (h.call q1 q2).bx; exact ⟨g.c0, g.c1, g.c2⟩) ?_)
   obtain ⟨x, rfl, hx0, hx1, hc2, k2⟩ := h2
   replace h := h.call hc2 k2
   try replace rl := rl.step k2 (fun q hq => hq)
   clear hK0 K0 hS hc2 k2
   simp only [zA, zB, zC, zD, zE, zF, zG]
   generalize W2 = WQ at *
   have hS : WQ.cell? ⟨G1 + 1 + 1, 0, none⟩ = some (.int .i64 r) ∧ WQ.cell? ⟨G1 + 1 + 1, 1, none⟩ = some (.slice (some ⟨G1, 0, none⟩) 0 0) ∧ WQ.cell? ⟨G1 + 1 + 1, 2, none⟩ = some (.slice (some ⟨G1 + 1, 0, none⟩) 0 0) := ⟨h.bx.c0, h.bx.c1, h.bx.c2⟩
   have hwx : IntKind.i64.wrap (1 + x) = 1 + x := IntWalk.i64_in _ (by omega)
   refine wpAnyK_take0 3 (.int .i64 (1 + x)) rfl (by kernel_rfl) (fun _ _ _ h => h) hS rfl (by intro w; go_simp) ?_
   simp only [zA, zB, zC, zD, zE, zF, zG]
   refine wpAnyK_1 5 (by kernel_rfl) (wpOpK' rfl rfl ?_)
   intro K0 hK0
   have ka := (Chg.refl No WQ).alloc (.cells #[.int .i64 1, .int .i64 2, .int .i64 2, .int .i64 3, .int .i64 3, .int .i64 4, .int .i64 6] 3)
   have rl : RI (fun q => q = b) (WQ.alloc (.cells #[.int .i64 1, .int .i64 2, .int .i64 2, .int .i64 3, .int .i64 3, .int .i64 4, .int .i64 6] 3)) (.slice (some ⟨WQ.heap.size, 0, none⟩) 7 7) [1, 2, 2, 3, 3, 4, 6] := RI.lit (fun q => q = b) WQ [1, 2, 2, 3, 3, 4, 6] _ _ _ 7 7 rfl rfl rfl (Nat.le_refl _) (fun e => by have := h.cur.lt; have e : WQ.heap.size = b := e; omega) (by decide)
   replace h := h.keep ka
   unfold Oper.wp execOp
   go_simp
   refine hK0.out _ _ ⟨h.bx.c0, h.bx.c1, h.bx.c2⟩ ?_
   clear hK0 K0 hS ka
   simp only [List.setIfInBounds_toArray]
   obtain ⟨G, hG⟩ : ∃ G, WQ.heap.size = G := ⟨_, rfl⟩
   rw [hG] at rl ⊢
   clear hG
   generalize WQ.alloc (.cells #[.int .i64 1, .int .i64 2, .int .i64 2, .int .i64 3, .int .i64 3, .int .i64 4, .int .i64 6] 3) = WQ at *
   have hS : WQ.cell? ⟨G1 + 1 + 1, 0, none⟩ = some (.int .i64 r) ∧ WQ.cell? ⟨G1 + 1 + 1, 1, none⟩ = some (.slice (some ⟨G1, 0, none⟩) 0 0) ∧ WQ.cell? ⟨G1 + 1 + 1, 2, none⟩ = some (.slice (some ⟨G1 + 1, 0, none⟩) 0 0) := ⟨h.bx.c0, h.bx.c1, h.bx.c2⟩
   refine wpAnyK_1 6 (by kernel_rfl) (wpOpK' rfl rfl ?_)
   intro K0 hK0
   refine ocallE (f := 92) (args := #[.pointer (some ⟨b, 0, none⟩), .slice (some ⟨G, 0, none⟩) 7 7]) (φ := fun v W' => ∃ y : Int, v = .int .i64 y ∧ y ∈ [1, 2, 2, 3, 3, 4, 6] ∧ Cur W' b B (K + 2 + 2 + 2) ∧ Chg (fun q => q = b) WQ W') (by go_simp) ((among_any b B (K + 2 + 2) _ _ WQ h.cur (by omega) rl (by decide) (by decide)).mono (fun e W' ⟨x, h1, h2, h5, h6⟩ => ⟨_, h1, x, rfl, h2, h5, h6⟩)) (fun v2 W2 h2 => hK0.out _ _ (by obtain ⟨x, _, _, q1, q2⟩ := h2; have g := (h.call q1 q2).bx; exact ⟨g.c0, g.c1, g.c2⟩) ?_)
   obtain ⟨y, rfl, hy, hc2, k2⟩ := h2
   replace h := h.call hc2 k2
   clear hK0 K0 hS hc2 k2 rl
   simp only [zA, zB, zC, zD, zE, zF, zG]
   generalize W2 = WQ at *
   have hS : WQ.cell? ⟨G1 + 1 + 1, 0, none⟩ = some (.int .i64 r) ∧ WQ.cell? ⟨G1 + 1 + 1, 1, none⟩ = some (.slice (some ⟨G1, 0, none⟩) 0 0) ∧ WQ.cell? ⟨G1 + 1 + 1, 2, none⟩ = some (.slice (some ⟨G1 + 1, 0, none⟩) 0 0) := ⟨h.bx.c0, h.bx.c1, h.bx.c2⟩
   refine wpAnyK_1 7 (by kernel_rfl) (wpOpK' rfl rfl ?_)
   intro K0 hK0
   refine ocall (f := 93) (args := #[.agg #[.int .i64 r, .slice (some ⟨G1, 0, none⟩) 0 0, .slice (some ⟨G1 + 1, 0, none⟩) 0 0], .int .i64 (1 + x), .int .i64 y]) (by go_simp) (l12Join_any _ ⟨r, [], []⟩ (1 + x) y WQ (h.ta.rt (by simp) (fun _ _ e => e)) (fun i hi => absurd hi (Nat.not_lt_zero i))) (fun v4 W4 h4 => hK0.out _ _ (by have g := (h.keep h4.2).bx; exact ⟨g.c0, g.c1, g.c2⟩) ?_)
   obtain ⟨hTJ, k4⟩ := h4
   clear hS hK0 K0
   simp only [zA, zB, zC, zD, zE, zF, zG]
   have hXl := h.bx.lt
   replace h := h.keep k4
   replace hTJ := hTJ.weak (base' := G1 + 1 + 1 + 1) (by omega)
   have hv := join_first r (1 + x) y hr (by omega) hy
   obtain ⟨t0, ht0⟩ : ∃ t0, joinT ⟨r, [], []⟩ (1 + x) y = t0 := ⟨_, rfl⟩
   rw [ht0] at hTJ hv
   obtain ⟨n1, n2, n3, s1, s2, s3, rfl, _⟩ := hTJ.put3i (b := G1 + 1 + 1) (by omega)
   have hN := Lib.hid (h.put hTJ)
   have HV := Lib.hid hv
   refine wpAnyK_tail 8 rfl (by kernel_rfl) ?_
   simp only [List.drop_succ_cons, List.drop_zero]
   obtain ⟨c0, c1, c2, cf⟩ := id h.bx
   have cf0 := cf 0
   have cf1 := cf 1
   have cf2 := cf 2
   clear cf h hTJ k4 ht0 hv hx0 hx1 hy
   go_wp2_with fail
   exact ⟨t0, n1, n2, n3, s1, s2, s3, by first | rfl | simp, HV.out, hN.out⟩
  ·skip
   intro K0 hK0
   have ka := (Chg.refl No WQ).alloc (.cells #[.int .i64 1, .int .i64 2, .int .i64 2, .int .i64 3, .int .i64 3, .int .i64 4, .int .i64 6] 3)
   have rl : RI (fun q => q = b) (WQ.alloc (.cells #[.int .i64 1, .int .i64 2, .int .i64 2, .int .i64 3, .int .i64 3, .int .i64 4, .int .i64 6] 3)) (.slice (some ⟨WQ.heap.size, 0, none⟩) 7 7) [1, 2, 2, 3, 3, 4, 6] := RI.lit (fun q => q = b) WQ [1, 2, 2, 3, 3, 4, 6] _ _ _ 7 7 rfl rfl rfl (Nat.le_refl _) (fun e => by have := h.cur.lt; have e : WQ.heap.size = b := e; omega) (by decide)
   replace h := h.keep ka
   unfold Oper.wp execOp
   go_simp
   refine hK0.out _ _ ⟨h.bx.c0, h.bx.c1, h.bx.c2⟩ ?_
   clear hK0 K0 hS ka
   simp only [List.setIfInBounds_toArray]
   obtain ⟨G, hG⟩ : ∃ G, WQ.heap.size = G := ⟨_, rfl⟩
   rw [hG] at rl ⊢
   clear hG
   generalize WQ.alloc (.cells #[.int .i64 1, .int .i64 2, .int .i64 2, .int .i64 3, .int .i64 3, .int .i64 4, .int .i64 6] 3) = WQ at *
   have hS : WQ.cell? ⟨G1 + 1 + 1, 0, none⟩ = some (.int .i64 r) ∧ WQ.cell? ⟨G1 + 1 + 1, 1, none⟩ = some (.slice (some ⟨G1, 0, none⟩) 0 0) ∧ WQ.cell? ⟨G1 + 1 + 1, 2, none⟩ = some (.slice (some ⟨G1 + 1, 0, none⟩) 0 0) := ⟨h.bx.c0, h.bx.c1, h.bx.c2⟩
   refine wpAnyK_1 2 (by kernel_rfl) (wpOpK' rfl rfl ?_)
   intro K0 hK0
   refine ocallE (f := 52) (args := #[.pointer (some ⟨b, 0, none⟩), .int .i64 7]) (φ := fun v W' => ∃ x : Int, v = .int .i64 x ∧ 0 ≤ x ∧ x ≤ 6 ∧ Cur W' b B (K + 2 + 2) ∧ Chg (fun q => q = b) WQ W') (by go_simp) ((pick_any b B (K + 2) 7 WQ h.cur (by omega) (by omega)).mono (fun e W' ⟨x, h1, h2, h3, _, h5, h6⟩ => ⟨_, h1, x, rfl, h2, by have := h3 (by omega); omega, h5, h6⟩)) (fun v2 W2 h2 => hK0.out _ _ (by obtain ⟨x, _, _, _, q1, q2⟩ := h2; have g := (h.call q1 q2).bx; exact ⟨g.c0, g.c1, g.c2⟩) ?_)
   obtain ⟨x, rfl, hx0, hx1, hc2, k2⟩ := h2
   replace h := h.call hc2 k2
   try replace rl := rl.step k2 (fun q hq => hq)
   clear hK0 K0 hS hc2 k2
   simp only [zA, zB, zC, zD, zE, zF, zG]
   generalize W2 = WQ at *
   have hS : WQ.cell? ⟨G1 + 1 + 1, 0, none⟩ = some (.int .i64 r) ∧ WQ.cell? ⟨G1 + 1 + 1, 1, none⟩ = some (.slice (some ⟨G1, 0, none⟩) 0 0) ∧ WQ.cell? ⟨G1 + 1 + 1, 2, none⟩ = some (.slice (some ⟨G1 + 1, 0, none⟩) 0 0) := ⟨h.bx.c0, h.bx.c1, h.bx.c2⟩
   have hwx : IntKind.i64.wrap (1 + x) = 1 + x := IntWalk.i64_in _ (by omega)
   refine wpAnyK_take0 3 (.int .i64 (1 + x)) rfl (by kernel_rfl) (fun _ _ _ h => h) hS rfl (by intro w; go_simp) ?_
   simp only [zA, zB, zC, zD, zE, zF, zG]
   refine wpAnyK_1 6 (by kernel_rfl) (wpOpK' rfl rfl ?_)
   intro K0 hK0
   refine ocallE (f := 92) (args := #[.pointer (some ⟨b, 0, none⟩), .slice (some ⟨G, 0, none⟩) 7 7]) (φ := fun v W' => ∃ y : Int, v = .int .i64 y ∧ y ∈ [1, 2, 2, 3, 3, 4, 6] ∧ Cur W' b B (K + 2 + 2 + 2) ∧ Chg (fun q => q = b) WQ W') (by go_simp) ((among_any b B (K + 2 + 2) _ _ WQ h.cur (by omega) rl (by decide) (by decide)).mono (fun e W' ⟨x, h1, h2, h5, h6⟩ => ⟨_, h1, x, rfl, h2, h5, h6⟩)) (fun v2 W2 h2 => hK0.out _ _ (by obtain ⟨x, _, _, q1, q2⟩ := h2; have g := (h.call q1 q2).bx; exact ⟨g.c0, g.c1, g.c2⟩) ?_)
   obtain ⟨y, rfl, hy, hc2, k2⟩ := h2
   replace h := h.call hc2 k2
   clear hK0 K0 hS hc2 k2 rl
   simp only [zA, zB, zC, zD, zE, zF, zG]
   generalize W2 = WQ at *
   have hS : WQ.cell? ⟨G1 + 1 + 1, 0, none⟩ = some (.int .i64 r) ∧ WQ.cell? ⟨G1 + 1 + 1, 1, none⟩ = some (.slice (some ⟨G1, 0, none⟩) 0 0) ∧ WQ.cell? ⟨G1 + 1 + 1, 2, none⟩ = some (.slice (some ⟨G1 + 1, 0, none⟩) 0 0) := ⟨h.bx.c0, h.bx.c1, h.bx.c2⟩
   refine wpAnyK_1 7 (by kernel_rfl) (wpOpK' rfl rfl ?_)
   intro K0 hK0
   refine ocall (f := 93) (args := #[.agg #[.int .i64 r, .slice (some ⟨G1, 0, none⟩) 0 0, .slice (some ⟨G1 + 1, 0, none⟩) 0 0], .int .i64 (1 + x), .int .i64 y]) (by go_simp) (l12Join_any _ ⟨r, [], []⟩ (1 + x) y WQ (h.ta.rt (by simp) (fun _ _ e => e)) (fun i hi => absurd hi (Nat.not_lt_zero i))) (fun v4 W4 h4 => hK0.out _ _ (by have g := (h.keep h4.2).bx; exact ⟨g.c0, g.c1, g.c2⟩) ?_)
   obtain ⟨hTJ, k4⟩ := h4
   clear hS hK0 K0
   simp only [zA, zB, zC, zD, zE, zF, zG]
   have hXl := h.bx.lt
   replace h := h.keep k4
   replace hTJ := hTJ.weak (base' := G1 + 1 + 1 + 1) (by omega)
   have hv := join_first r (1 + x) y hr (by omega) hy
   obtain ⟨t0, ht0⟩ : ∃ t0, joinT ⟨r, [], []⟩ (1 + x) y = t0 := ⟨_, rfl⟩
   rw [ht0] at hTJ hv
   obtain ⟨n1, n2, n3, s1, s2, s3, rfl, _⟩ := hTJ.put3i (b := G1 + 1 + 1) (by omega)
   have hN := Lib.hid (h.put hTJ)
   have HV := Lib.hid hv
   refine wpAnyK_tail 8 rfl (by kernel_rfl) ?_
   simp only [List.drop_succ_cons, List.drop_zero]
   obtain ⟨c0, c1, c2, cf⟩ := id h.bx
   have cf0 := cf 0
   have cf1 := cf 1
   have cf2 := cf 2
   clear cf h hTJ k4 ht0 hv hx0 hx1 hy
   go_wp2_with fail
   exact ⟨t0, n1, n2, n3, s1, s2, s3, by first | rfl | simp, HV.out, hN.out⟩
 ·rintro _ W2 ⟨t0, n1, n2, n3, s1, s2, s3, x0, y0, G0, rfl, hv, h⟩
  dsimp only
  clear hr hRl
  obtain ⟨X, hX⟩ : ∃ X, G1 + 1 + 1 = X := ⟨_, rfl⟩
  rw [hX] at h ⊢
  --LOOP
  go_wp2_with fail
  clear hX
  refine (pick_any b B _ 14 _ h.cur (by omega) (by omega)).mono ?_
  rintro e w3 ⟨n0, rfl, hn0, hn1, _, hc3, hk3⟩
  replace h := h.call hc3 hk3
  have hn2 := hn1 (by omega)
  clear hc3 hk3 hn1
  go_wp2_with fail
  go_loopw [4] (fun i wr => ∃ (n : Int) (t : To) (q1 : Option Addr) (q2 q3 : Nat) (u1 : Option Addr) (u2 u3 : Nat) (K' : Nat), i = .int .i64 n ∧ 0 ≤ n ∧ n ≤ 13 ∧ (K' : Int) + 100 * n ≤ (K : Int) + 1400 ∧ tourB t = true ∧ TuD b B K' w.heap.size X (X + 1) w wr t q1 q2 q3 u1 u2 u3) (fun i _ => (intOf i).toNat)
  case atStart => exact ⟨n0, t0, n1, n2, n3, s1, s2, s3, _, rfl, hn0, by omega, by push_cast; omega, hv, h⟩
  case round =>
   clear h hv hn0 hn2
   obtain ⟨n, t, p1, p2, p3, r1, r2, r3, K', rfl, hn0, hn1, hK', hv, h⟩ := hrel
   have hfar := h.far
   obtain ⟨hl4, hl60, _⟩ := tour_len hv
   have hBw : B ≤ wr.heap.size := by have := h.chg.size; omega
   by_cases hlt : 0 < n
   ·have hwn : IntKind.i64.wrap (n - 1) = n - 1 := IntWalk.i64_in _ (by omega)
    have HV := Lib.hid hv
    clear hv
    obtain ⟨c0, c1, c2, _⟩ := id h.bx
    go_wp2_with fail
    refine (step12_any b B K' _ t wr h.cur hBw (by omega) (h.ta.rt (by omega) (fun q hq e => by omega)) (by omega)).mono ?_
    rintro e w4 ⟨k, a, c, rfl, hc4, hk4⟩
    replace h := h.call hc4 hk4
    clear c0 c1 c2 hc4 hk4 hBw
    have hYb := h.cur.lt
    have bY := Box3.new w4 (.int .i64 k) (.int .i64 a) (.int .i64 c) 47
    have ka := (Chg.refl No w4).alloc (.cells #[.int .i64 k, .int .i64 a, .int .i64 c] 47)
    replace h := h.keep ka
    obtain ⟨c0, c1, c2, _⟩ := id h.bx
    obtain ⟨d0, d1, d2, _⟩ := id bY
    clear ka
    obtain ⟨BB, hBB⟩ : ∃ BB, okStep t k a c = BB := ⟨_, rfl⟩
    have HBB := Lib.hid hBB
    clear hBB
    go_wp2_with fail
    clear c0 c1 c2 d0 d1 d2
    generalize w4.alloc (.cells #[.int .i64 k, .int .i64 a, .int .i64 c] 47) = W5 at h bY ⊢
    obtain ⟨Y, hY⟩ : ∃ Y, w4.heap.size = Y := ⟨_, rfl⟩
    rw [hY] at bY hYb ⊢
    clear hY
    have hm := l12May_any _ t k a c W5 (h.ta.rt (by omega) (fun _ _ e => e)) HV.out
    rw [HBB.out] at hm
    unfold stV at hm
    refine hm.mono ?_
    rintro e w5 ⟨_, rfl, rfl, k5⟩
    clear hm
    replace h := h.keep k5
    replace bY := bY.keep k5
    clear k5
    obtain ⟨c0, c1, c2, _⟩ := id h.bx
    obtain ⟨d0, d1, d2, _⟩ := id bY
    cases BB
    ·go_wp2_with fail
     go_round
     case measure => simp [intOf]; omega
     case rel => exact ⟨n - 1, t, p1, p2, p3, r1, r2, r3, _, by go_num, by omega, by omega, by push_cast; omega, HV.out, h⟩
    ·by_cases hk7 : k = 7
     ·subst hk7
      go_wp2_with fail
      refine (one_any b B _ 3 _ h.cur (by omega) (by omega)).mono ?_
      rintro e w6 ⟨y, rfl, hc6, hk6⟩
      replace h := h.call hc6 hk6
      replace bY := bY.step hk6 (by omega)
      clear hc6 hk6 c0 c1 c2 d0 d1 d2
      obtain ⟨c0, c1, c2, _⟩ := id h.bx
      obtain ⟨d0, d1, d2, _⟩ := id bY
      cases y
      ·go_wp2_with fail
       go_round
       case measure => simp [intOf]; omega
       case rel => exact ⟨n - 1, t, p1, p2, p3, r1, r2, r3, _, by go_num, by omega, by omega, by push_cast; omega, HV.out, h⟩
      ·skip
       go_wp2_with fail
       have hm := l12Make_any _ t 7 a c _ (h.ta.rt (by omega) (fun _ _ e => e)) HV.out HBB.out
       unfold stV at hm
       refine hm.mono ?_
       rintro e w7 ⟨v7, rfl, hTN, k7⟩
       have hXl := h.bx.lt
       clear hm c0 c1 c2 d0 d1 d2
       replace h := h.keep k7
       replace hTN := hTN.weak (base' := X + 1) (by omega)
       clear k7
       have hvN := tour_step HV.out 7 a c HBB.out
       obtain ⟨tN, htN⟩ : ∃ tN, stepT t 7 a c = tN := ⟨_, rfl⟩
       rw [htN] at hTN hvN
       obtain ⟨m1, m2, m3, u1, u2, u3, rfl, _⟩ := hTN.put3i (b := X) (by omega)
       obtain ⟨c0, c1, c2, cf⟩ := id h.bx
       have cf0 := cf 0
       have cf1 := cf 1
       have cf2 := cf 2
       have hN := Lib.hid (And.intro hvN (h.put hTN))
       clear cf h hTN hvN htN
       go_wp2_with fail
       go_round
       case measure => simp [intOf]; omega
       case rel => exact ⟨n - 1, tN, m1, m2, m3, u1, u2, u3, _, by go_num, by omega, by omega, by push_cast; omega, hN.out.1, hN.out.2⟩
     ·skip
      go_wp2_with fail
      have hm := l12Make_any _ t k a c _ (h.ta.rt (by omega) (fun _ _ e => e)) HV.out HBB.out
      unfold stV at hm
      refine hm.mono ?_
      rintro e w7 ⟨v7, rfl, hTN, k7⟩
      have hXl := h.bx.lt
      clear hm c0 c1 c2 d0 d1 d2
      replace h := h.keep k7
      replace hTN := hTN.weak (base' := X + 1) (by omega)
      clear k7
      have hvN := tour_step HV.out k a c HBB.out
      obtain ⟨tN, htN⟩ : ∃ tN, stepT t k a c = tN := ⟨_, rfl⟩
      rw [htN] at hTN hvN
      obtain ⟨m1, m2, m3, u1, u2, u3, rfl, _⟩ := hTN.put3i (b := X) (by omega)
      obtain ⟨c0, c1, c2, cf⟩ := id h.bx
      have cf0 := cf 0
      have cf1 := cf 1
      have cf2 := cf 2
      have hN := Lib.hid (And.intro hvN (h.put hTN))
      clear cf h hTN hvN htN
      go_wp2_with fail
      go_round
      case measure => simp [intOf]; omega
      case rel => exact ⟨n - 1, tN, m1, m2, m3, u1, u2, u3, _, by go_num, by omega, by omega, by push_cast; omega, hN.out.1, hN.out.2⟩
   ·have hn : n = 0 := by omega
    subst hn
    clear hlt hv
    --SWITCH
    go_wp2_with fail
    refine (pick_any b B K' 40 wr h.cur (by omega) (by omega)).mono ?_
    rintro e w4 ⟨x, rfl, hx0, hx1, _, hc4, hk4⟩
    replace h := h.call hc4 hk4
    clear hc4 hk4 hx1 hBw
    have hne : ¬ X = w.heap.size := by omega
    have hne' : ¬ w.heap.size = X := by omega
    by_cases hxa : x = 0
    ·subst hxa
     go_wp2_with fail
     refine (items_any b B _ _ h.cur (by omega)).mono ?_
     rintro e w5 ⟨r7, rfl, _, _, hc5, hk5⟩
     replace h := h.call hc5 hk5
     obtain ⟨pv, pf, mf, rv, he, hP, hO, hd⟩ := id h.ta
     simp only [Value.agg.injEq, Array.mk.injEq, List.cons.injEq, and_true, true_and] at he
     obtain ⟨rfl, rfl⟩ := he
     obtain ⟨c0, c1, c2, cf⟩ := id h.bx
     have cf0 := cf 0
     have cf1 := cf 1
     have cf2 := cf 2
     clear cf
     obtain ⟨e0, e1, e2, ef⟩ := id h.br
     have ef0 := ef 0
     have ef1 := ef 1
     have ef2 := ef 2
     clear ef
     have ch := (Chg.refl (fun q => q = X) w5).setCell (p := ⟨X, 0, none⟩) (fun _ => rfl) (.int .i64 r7)
     have hcu := h.cur.step ch (fun q hq => by omega)
     have hch := h.chg.step ch (fun q hq hl => by omega)
     have hbr := h.br.far ⟨X, 0, none⟩ (.int .i64 r7) (by show X ≠ _; omega)
     have hrp := hP.readS (by omega) ch (fun q hq e => by omega) (A := fun q => q ≤ w.heap.size) (fun q hq e => by omega)
     have hro := hO.readS ch (fun q hq e => by omega) (A := fun q => q ≤ w.heap.size) (fun q hq e => by omega)
     have hF := Lib.hid (TuD.fin (R := w.heap.size) (X := X) (t := ⟨r7, t.ps, t.reqs⟩) (v0 := .int .i64 r7) (v1 := .slice p1 p2 p3) (v2 := .slice r1 r2 r3) hcu hch ⟨hfar.1, hfar.2.1, hfar.2.2.1, hfar.2.2.2.1⟩ ⟨_, _, rfl, hrp, hro⟩)
     obtain ⟨z0, z1, z2, _⟩ := ((hbr.set0 (.int .i64 r7)).set1 (.slice p1 p2 p3)).set2 (.slice r1 r2 r3)
     clear h hrp hro hcu hch hbr hP hO hd ch
     go_wp2_with fail
     exact bodyPost_ret (v := .agg #[.int .i64 r7, .slice p1 p2 p3, .slice r1 r2 r3]) (by simp [results, Tryz.results55, go_sem, z0, z1, z2]) rfl ⟨_, ⟨r7, t.ps, t.reqs⟩, rfl, hF.out.1, (by show t.ps.length ≤ 12; omega), (by show t.reqs.length ≤ 61; omega), hF.out.2.1.more (by omega), hF.out.2.2⟩
    by_cases hxb : x = 1
    ·subst hxb
     obtain ⟨pv, pf, mf, rv, he, hP, hO, hd⟩ := id h.ta
     simp only [Value.agg.injEq, Array.mk.injEq, List.cons.injEq, and_true, true_and] at he
     obtain ⟨rfl, rfl⟩ := he
     obtain ⟨c0, c1, c2, cf⟩ := id h.bx
     have cf0 := cf 0
     have cf1 := cf 1
     have cf2 := cf 2
     clear cf
     obtain ⟨e0, e1, e2, ef⟩ := id h.br
     have ef0 := ef 0
     have ef1 := ef 1
     have ef2 := ef 2
     clear ef
     go_wp2_with fail
     refine wp_region_K (S := fun W => W.cell? ⟨X, 0, none⟩ = some (.int .i64 t.items) ∧ W.cell? ⟨X, 1, none⟩ = some (.slice p1 p2 p3) ∧ W.cell? ⟨X, 2, none⟩ = some (.slice r1 r2 r3)) (k := 7) (by kernel_rfl) ?_
     clear hP hO hd c0 c1 c2 cf0 cf1 cf2 e0 e1 e2 ef0 ef1 ef2
     replace h := h.keep (drewN0 _)
     generalize World.drew _ = WQ at h ⊢
     obtain ⟨pv, pf, mf, rv, he, hP, hO, hd⟩ := id h.ta
     simp only [Value.agg.injEq, Array.mk.injEq, List.cons.injEq, and_true, true_and] at he
     obtain ⟨rfl, rfl⟩ := he
     obtain ⟨c0, c1, c2, cf⟩ := id h.bx
     have cf0 := cf 0
     have cf1 := cf 1
     have cf2 := cf 2
     clear cf
     obtain ⟨e0, e1, e2, ef⟩ := id h.br
     have ef0 := ef 0
     have ef1 := ef 1
     have ef2 := ef 2
     clear ef
     have hS : WQ.cell? ⟨X, 0, none⟩ = some (.int .i64 t.items) ∧ WQ.cell? ⟨X, 1, none⟩ = some (.slice p1 p2 p3) ∧ WQ.cell? ⟨X, 2, none⟩ = some (.slice r1 r2 r3) := ⟨c0, c1, c2⟩
     clear c0 c1 c2 cf0 cf1 cf2 e0 e1 e2 ef0 ef1 ef2
     refine wpAnyK_take0 0 (.pointer (some ⟨X, 2, none⟩)) rfl (by kernel_rfl) (fun _ _ _ h => h) hS rfl (by intro w; go_simp) ?_
     simp only [zA, zC, zD, zE, zF, zG]
     refine wpAnyK_takeT 1 (.slice r1 r2 r3) rfl (by kernel_rfl) (fun _ _ _ h => h) hS rfl (by intro w hSw; go_simp) ?_
     simp only [zA, zB, zC, zD, zE, zF, zG]
     refine wpAnyK_take0 2 (.pointer (some ⟨b, 0, none⟩)) rfl (by kernel_rfl) (fun _ _ _ h => h) hS rfl (by intro w; go_simp) ?_
     simp only [zA, zB, zC, zD, zE, zF, zG]
     refine wpAnyK_1 3 (by kernel_rfl) (wpOpK' rfl rfl ?_)
     intro K0 hK0
     have ka := (Chg.refl No WQ).alloc (.cells #[.int .i64 0, .int .i64 (-1), .int .i64 8] 3)
     unfold Oper.wp execOp
     go_simp
     refine hK0.out _ _ ⟨(h.bx.keep ka).c0, (h.bx.keep ka).c1, (h.bx.keep ka).c2⟩ ?_
     clear hK0 K0 ka
     simp only [List.setIfInBounds_toArray]
     refine wpAnyK_1 4 (by kernel_rfl) (wpOpK' rfl rfl ?_)
     intro K0 hK0
     refine ocallE (f := 92) (args := #[.pointer (some ⟨b, 0, none⟩), .slice (some ⟨WQ.heap.size, 0, none⟩) 3 3]) (φ := fun v W' => ∃ y : Int, v = .int .i64 y ∧ Cur W' b B (K' + 2 + 2) ∧ Chg (fun q => q = b) WQ W') (by go_simp) ((among_lit b B (K' + 2) WQ [0, -1, 8] _ _ _ _ _ rfl rfl rfl rfl h.cur (by omega) (by simp) (by simp)).mono (fun e W' ⟨x, h1, _, h5, h6⟩ => ⟨_, h1, x, rfl, h5, h6⟩)) (fun v2 W2 h2 => ?_)
     obtain ⟨y, rfl, hc2, k2⟩ := h2
     replace h := h.call hc2 k2
     refine hK0.out _ _ ⟨h.bx.c0, h.bx.c1, h.bx.c2⟩ ?_
     clear hK0 K0 hS hP hO hd hc2 k2
     simp only [zA, zB, zC, zD, zE, zF, zG]
     refine wpAnyK_1 5 (by kernel_rfl) (wpOpK' rfl rfl ?_)
     intro K0 hK0
     refine obuild (.tmp 57) y rfl rfl (fun g3 W3 k3 hg3 lg3 => hK0.out _ _ ⟨(h.bx.keep k3).c0, (h.bx.keep k3).c1, (h.bx.keep k3).c2⟩ ?_)
     clear hK0 K0
     simp only [zA, zB, zC, zD, zE, zF, zG]
     replace h := h.keep k3
     obtain ⟨pv, pf, mf, rv, he, hP, hO, hd⟩ := id h.ta
     simp only [Value.agg.injEq, Array.mk.injEq, List.cons.injEq, and_true, true_and] at he
     obtain ⟨rfl, rfl⟩ := he
     have hXl := h.bx.lt
     refine wpAnyK_1 6 (by kernel_rfl) (wpOpK' rfl rfl ?_)
     intro K0 hK0
     refine oapp (.tmp 54) (.tmp 58) rfl hO (RI.one hg3 (Nat.le_refl 1) (by decide) (fun e => e)) rfl rfl (by simp; omega) (by omega) (fun v6 w6 h6 k6 f6 => hK0.out _ _ (by have g := h.bx.step k6 (fun e => by have := (hO.lt _ e).1; omega); exact ⟨g.c0, g.c1, g.c2⟩) ?_)
     clear hK0 K0
     simp only [zA, zB, zC, zD, zE, zF, zG]
     obtain ⟨a6, n6, c6, rfl⟩ := h6.shape
     have hbx := h.bx.step k6 (fun e => by have := (hO.lt _ e).1; omega)
     have hbr0 := h.br.step k6 (fun e => by have := (hO.lt _ e).1; omega)
     have hcu0 := h.cur.step k6 (fun q hq => by have := (hO.lt _ hq).1; omega)
     have hch0 := h.chg.step k6 (fun q hq hl => by have := (hO.lt _ hq).1; omega)
     have hP6 := hP.step k6 hd
     have ch := (Chg.refl (fun q => q = X) w6).setCell (p := ⟨X, 2, none⟩) (fun _ => rfl) (.slice a6 n6 c6)
     have hcu := hcu0.step ch (fun q hq => by omega)
     have hch := hch0.step ch (fun q hq hl => by omega)
     have hbr := hbr0.far ⟨X, 2, none⟩ (.slice a6 n6 c6) (by show X ≠ _; omega)
     have hrp := hP6.readS (by omega) ch (fun q hq e => by omega) (A := fun q => q ≤ w.heap.size) (fun q hq e => by omega)
     have hro := h6.readS ch (fun q hq e => by omega) (A := fun q => q ≤ w.heap.size) (fun q hq e => by omega)
     refine wpAnyK_tail 7 rfl (by kernel_rfl) ?_
     simp only [List.drop_succ_cons, List.drop_zero]
     obtain ⟨c0, c1, c2, cf⟩ := id hbx
     have cf0 := cf 0
     have cf1 := cf 1
     have cf2 := cf 2
     clear cf
     obtain ⟨e0, e1, e2, ef⟩ := id hbr0
     have ef0 := ef 0
     have ef1 := ef 1
     have ef2 := ef 2
     clear ef
     clear hbx hbr0 hcu0 hch0 hP6 h6 k6 f6 k3 hg3 lg3
     have hF := Lib.hid (TuD.fin (R := w.heap.size) (X := X) (t := ⟨t.items, t.ps, t.reqs ++ [y]⟩) (v0 := .int .i64 t.items) (v1 := .slice p1 p2 p3) (v2 := .slice a6 n6 c6) hcu hch ⟨hfar.1, hfar.2.1, hfar.2.2.1, hfar.2.2.2.1⟩ ⟨_, _, rfl, hrp, hro⟩)
     obtain ⟨z0, z1, z2, _⟩ := ((hbr.set0 (.int .i64 t.items)).set1 (.slice p1 p2 p3)).set2 (.slice a6 n6 c6)
     clear h hrp hro hcu hch hbr hP hO hd ch
     go_wp2_with fail
     exact bodyPost_ret (v := .agg #[.int .i64 t.items, .slice p1 p2 p3, .slice a6 n6 c6]) (by simp [results, Tryz.results55, go_sem, z0, z1, z2]) rfl ⟨_, ⟨t.items, t.ps, t.reqs ++ [y]⟩, rfl, hF.out.1, (by show t.ps.length ≤ 12; omega), (by show (t.reqs ++ [y]).length ≤ 61; simp; omega), hF.out.2.1.more (by omega), hF.out.2.2⟩
    by_cases hxc : x = 2
    ·subst hxc
     obtain ⟨pv, pf, mf, rv, he, hP, hO, hd⟩ := id h.ta
     simp only [Value.agg.injEq, Array.mk.injEq, List.cons.injEq, and_true, true_and] at he
     obtain ⟨rfl, rfl⟩ := he
     obtain ⟨c0, c1, c2, cf⟩ := id h.bx
     have cf0 := cf 0
     have cf1 := cf 1
     have cf2 := cf 2
     clear cf
     obtain ⟨e0, e1, e2, ef⟩ := id h.br
     have ef0 := ef 0
     have ef1 := ef 1
     have ef2 := ef 2
     clear ef
     go_wp2_with fail
     refine wp_region_K (S := fun W => W.cell? ⟨X, 0, none⟩ = some (.int .i64 t.items) ∧ W.cell? ⟨X, 1, none⟩ = some (.slice p1 p2 p3) ∧ W.cell? ⟨X, 2, none⟩ = some (.slice r1 r2 r3)) (k := 8) (by kernel_rfl) ?_
     clear hP hO hd c0 c1 c2 cf0 cf1 cf2 e0 e1 e2 ef0 ef1 ef2
     replace h := h.keep (drewN0 _)
     generalize World.drew _ = WQ at h ⊢
     obtain ⟨pv, pf, mf, rv, he, hP, hO, hd⟩ := id h.ta
     simp only [Value.agg.injEq, Array.mk.injEq, List.cons.injEq, and_true, true_and] at he
     obtain ⟨rfl, rfl⟩ := he
     obtain ⟨c0, c1, c2, cf⟩ := id h.bx
     have cf0 := cf 0
     have cf1 := cf 1
     have cf2 := cf 2
     clear cf
     obtain ⟨e0, e1, e2, ef⟩ := id h.br
     have ef0 := ef 0
     have ef1 := ef 1
     have ef2 := ef 2
     clear ef
     have hS : WQ.cell? ⟨X, 0, none⟩ = some (.int .i64 t.items) ∧ WQ.cell? ⟨X, 1, none⟩ = some (.slice p1 p2 p3) ∧ WQ.cell? ⟨X, 2, none⟩ = some (.slice r1 r2 r3) := ⟨c0, c1, c2⟩
     clear c0 c1 c2 cf0 cf1 cf2 e0 e1 e2 ef0 ef1 ef2
     refine wpAnyK_take0 0 (.pointer (some ⟨X, 1, none⟩)) rfl (by kernel_rfl) (fun _ _ _ h => h) hS rfl (by intro w; go_simp) ?_
     simp only [zA, zC, zD, zE, zF, zG]
     refine wpAnyK_takeT 1 (.slice p1 p2 p3) rfl (by kernel_rfl) (fun _ _ _ h => h) hS rfl (by intro w hSw; go_simp) ?_
     simp only [zA, zB, zC, zD, zE, zF, zG]
     refine wpAnyK_take0 2 (.pointer (some ⟨X, 1, none⟩)) rfl (by kernel_rfl) (fun _ _ _ h => h) hS rfl (by intro w; go_simp) ?_
     simp only [zA, zB, zC, zD, zE, zF, zG]
     refine wpAnyK_takeT 3 (.slice p1 p2 p3) rfl (by kernel_rfl) (fun _ _ _ h => h) hS rfl (by intro w hSw; go_simp) ?_
     simp only [zA, zB, zC, zD, zE, zF, zG]
     refine wpAnyK_take0 5 (.pointer (some ⟨X, 1, none⟩)) rfl (by kernel_rfl) (fun _ _ _ h => h) hS rfl (by intro w; go_simp) ?_
     simp only [zA, zB, zC, zD, zE, zF, zG]
     refine wpAnyK_takeT 6 (.slice p1 p2 p3) rfl (by kernel_rfl) (fun _ _ _ h => h) hS rfl (by intro w hSw; go_simp) ?_
     simp only [zA, zB, zC, zD, zE, zF, zG]
     have hXl := h.bx.lt
     clear hS
     refine wpAnyK_1 4 (by kernel_rfl) (wpOpK' rfl rfl ?_)
     intro K0 hK0
     refine oappK elPlayers (by omega) (.tmp 64) (.tmp 66) rfl hP.os hP.os.readNo (rowC_one _ _ _ _ (fun i hi => ⟨(hP.pg i hi).oneC, (hP.mq i hi).oneC⟩)) rfl rfl (by omega) (by omega) (fun v6 w6 h6 k6 f6 r6 => hK0.out _ _ (by have g := h.bx.step k6 (fun e => by have := (hP.os.lt _ e).1; omega); exact ⟨g.c0, g.c1, g.c2⟩) ?_)
     clear hK0 K0
     simp only [zA, zB, zC, zD, zE, zF, zG]
     have hbx := h.bx.step k6 (fun e => by have := (hP.os.lt _ e).1; omega)
     have hbr0 := h.br.step k6 (fun e => by have := (hP.os.lt _ e).1; omega)
     have hcu0 := h.cur.step k6 (fun q hq => by have := (hP.os.lt _ hq).1; omega)
     have hch0 := h.chg.step k6 (fun q hq hl => by have := (hP.os.lt _ hq).1; omega)
     have hO6 := hO.step k6 (fun q hq e => hd q (.inl e) hq)
     have hpg6 : ∀ i, i < t.ps.length → OI (X + 1) w6 (pf i) (t.ps.getD i dPl).ca.pages ∧ OI (X + 1) w6 (mf i) (t.ps.getD i dPl).ca.marks := fun i hi => ⟨(hP.pg i hi).step k6 (fun q hq e => hP.far i hi q (.inl hq) e), (hP.mq i hi).step k6 (fun q hq e => hP.far i hi q (.inr hq) e)⟩
     have hs6 := k6.size
     refine wpAnyK_1 7 (by kernel_rfl) (wpOpK' rfl rfl ?_)
     intro K0 hK0
     refine oappS elPlayers (by omega) (.tmp 67) (.tmp 69) rfl h6 r6 (rowC_one _ _ _ _ (fun i hi => ⟨(hP.pg i hi).oneC, (hP.mq i hi).oneC⟩)) rfl rfl (by omega) (by omega) (fun v7 w7 h7 k7 f7 => hK0.out _ _ (by have g := hbx.step k7 (fun e => by have := (h6.lt _ e).1; omega); exact ⟨g.c0, g.c1, g.c2⟩) ?_)
     clear hK0 K0
     simp only [zA, zB, zC, zD, zE, zF, zG]
     replace hbx := hbx.step k7 (fun e => by have := (h6.lt _ e).1; omega)
     replace hbr0 := hbr0.step k7 (fun e => by have := (h6.lt _ e).1; omega)
     replace hcu0 := hcu0.step k7 (fun q hq => by have := (h6.lt _ hq).1; omega)
     replace hch0 := hch0.step k7 (fun q hq hl => by have := (h6.lt _ hq).1; omega)
     have hold : ∀ q, own v6 q → own (.slice p1 p2 p3) q ∨ WQ.heap.size ≤ q := f6
     have hO7 := hO6.step k7 (fun q hq e => by
      rcases hold q e with g | g
      ·exact hd q (.inl g) hq
      ·have := (hO.lt q hq).2; omega)
     have hpg7 : ∀ i, i < t.ps.length → OI (X + 1) w7 (pf i) (t.ps.getD i dPl).ca.pages ∧ OI (X + 1) w7 (mf i) (t.ps.getD i dPl).ca.marks := fun i hi => by
      obtain ⟨g1, g2⟩ := hpg6 i hi
      refine ⟨g1.step k7 (fun q hq e => ?_), g2.step k7 (fun q hq e => ?_)⟩
      ·rcases hold q e with g | g
       ·exact hP.far i hi q (.inl hq) g
       ·have := ((hP.pg i hi).lt q hq).2; omega
      ·rcases hold q e with g | g
       ·exact hP.far i hi q (.inr hq) g
       ·have := ((hP.mq i hi).lt q hq).2; omega
     obtain ⟨PF, MF, h8, hpm⟩ := triple_row t.ps pf mf (fun i P M => OI (X + 1) w7 P (t.ps.getD i dPl).ca.pages ∧ OI (X + 1) w7 M (t.ps.getD i dPl).ca.marks) (fun i hi => hpg7 i hi)
     rw [h8] at h7
     have hl3 : (t.ps ++ t.ps ++ t.ps).length = t.ps.length + t.ps.length + t.ps.length := by simp; omega
     rw [← hl3] at h7
     obtain ⟨a7, q7, rfl, _⟩ := h7.view
     obtain ⟨n7, hn7⟩ : ∃ n7, (t.ps ++ t.ps ++ t.ps).length = n7 := ⟨_, rfl⟩
     have ch := (Chg.refl (fun q => q = X) w7).setCell (p := ⟨X, 1, none⟩) (fun _ => rfl) (.slice a7 n7 q7)
     have hcu := hcu0.step ch (fun q hq => by omega)
     have hch := hch0.step ch (fun q hq hl => by omega)
     have hbr := hbr0.far ⟨X, 1, none⟩ (.slice a7 n7 q7) (by show X ≠ _; omega)
     have hrp : RPS (fun q => q ≤ w.heap.size) _ _ (t.ps ++ t.ps ++ t.ps) := OS.rps (pf := PF) (mf := MF) (h7.step ch (fun q hq e => by have := (h7.lt q hq).1; omega)) (by rw [hl3]; omega) (A := fun q => q ≤ w.heap.size) (fun q hq e => by have := (h7.lt q hq).1; omega) (fun i hi => by
      obtain ⟨i', hi', g0, g1, g2⟩ := hpm i hi
      rw [g0]
      exact ⟨g1.readS ch (fun q hq e => by omega) (fun q hq e => by omega), g2.readS ch (fun q hq e => by omega) (fun q hq e => by omega)⟩)
     have hro := hO7.readS ch (fun q hq e => by omega) (A := fun q => q ≤ w.heap.size) (fun q hq e => by omega)
     rw [hn7] at hrp ⊢
     refine wpAnyK_tail 8 rfl (by kernel_rfl) ?_
     simp only [List.drop_succ_cons, List.drop_zero]
     obtain ⟨c0, c1, c2, cf⟩ := id hbx
     have cf0 := cf 0
     have cf1 := cf 1
     have cf2 := cf 2
     clear cf
     obtain ⟨e0, e1, e2, ef⟩ := id hbr0
     have ef0 := ef 0
     have ef1 := ef 1
     have ef2 := ef 2
     clear ef
     clear hbx hbr0 hcu0 hch0 h7 h6 r6 k6 f6 k7 f7 hO6 hO7 hpg6 hpg7 hold h8 hpm
     have hl12 : (t.ps ++ t.ps ++ t.ps).length ≤ 12 := by rw [hl3]; omega
     clear hl3
     have hF := Lib.hid (TuD.fin (R := w.heap.size) (X := X) (t := ⟨t.items, t.ps ++ t.ps ++ t.ps, t.reqs⟩) (v0 := .int .i64 t.items) (v1 := .slice a7 n7 q7) (v2 := .slice r1 r2 r3) hcu hch ⟨hfar.1, hfar.2.1, hfar.2.2.1, hfar.2.2.2.1⟩ ⟨_, _, rfl, hrp, hro⟩)
     obtain ⟨z0, z1, z2, _⟩ := ((hbr.set0 (.int .i64 t.items)).set1 (.slice a7 n7 q7)).set2 (.slice r1 r2 r3)
     clear h hrp hro hcu hch hbr hP hO hd ch
     go_wp2_with fail
     exact bodyPost_ret (v := .agg #[.int .i64 t.items, .slice a7 n7 q7, .slice r1 r2 r3]) (by simp [results, Tryz.results55, go_sem, z0, z1, z2]) rfl ⟨_, ⟨t.items, t.ps ++ t.ps ++ t.ps, t.reqs⟩, rfl, hF.out.1, hl12, (by show t.reqs.length ≤ 61; omega), hF.out.2.1.more (by omega), hF.out.2.2⟩
    by_cases hxd : x = 3
    ·subst hxd
     obtain ⟨pv, pf, mf, rv, he, hP, hO, hd⟩ := id h.ta
     simp only [Value.agg.injEq, Array.mk.injEq, List.cons.injEq, and_true, true_and] at he
     obtain ⟨rfl, rfl⟩ := he
     obtain ⟨c0, c1, c2, cf⟩ := id h.bx
     have cf0 := cf 0
     have cf1 := cf 1
     have cf2 := cf 2
     clear cf
     obtain ⟨e0, e1, e2, ef⟩ := id h.br
     have ef0 := ef 0
     have ef1 := ef 1
     have ef2 := ef 2
     clear ef
     by_cases hpos : 0 < t.ps.length
     ·skip
      obtain ⟨a, cap, he, hv2, hv3, hv4, hv5⟩ := hP.os.view
      simp only [Value.slice.injEq] at he
      obtain ⟨rfl, heN, rfl⟩ := he
      try subst heN
      obtain ⟨g, rfl, hg1, hg2, _, hfz⟩ := hv5 (by omega)
      have c7 := hP.cell7 0 hpos
      rw [Nat.zero_mul] at c7
      obtain ⟨y, hy⟩ : ∃ y, t.ps.getD 0 dPl = y := ⟨_, rfl⟩
      rw [hy] at c7
      have hgX : ¬ g = X := by omega
      have hgX' : ¬ X = g := by omega
      have hgR : ¬ g = w.heap.size := by omega
      have hgR' : ¬ w.heap.size = g := by omega
      clear hv2 hv3 hv4 hv5
      have hl0 : (0 : Int) < (t.ps.length : Int) := by omega
      have g6 : w4.cell? ⟨g, 6, none⟩ = some (.int .i64 y.fa) := c7.c6
      have gz := hfz 6
      obtain ⟨F, hF1⟩ : ∃ F, IntKind.i64.wrap (y.fa + 1) = F := ⟨_, rfl⟩
      have ch := (Chg.refl (fun q => q = g) w4).setCell (p := ⟨g, 6, none⟩) (fun _ => rfl) (.int .i64 F)
      have hcu := h.cur.step ch (fun q hq => by omega)
      have hch := h.chg.step ch (fun q hq hl => by omega)
      have hbr := h.br.far ⟨g, 6, none⟩ (.int .i64 F) (by show g ≠ _; omega)
      have hpp := ((hP.pg 0 hpos).step ch (fun q hq e => hP.far 0 hpos q (.inl hq) (by subst e; exact own_slice.2 rfl))).read (A := fun q => q ≤ w.heap.size) (fun q hq e => by have := ((hP.pg 0 hpos).lt q hq).1; omega)
      have hmm := ((hP.mq 0 hpos).step ch (fun q hq e => hP.far 0 hpos q (.inr hq) (by subst e; exact own_slice.2 rfl))).read (A := fun q => q ≤ w.heap.size) (fun q hq e => by have := ((hP.mq 0 hpos).lt q hq).1; omega)
      rw [hy] at hpp hmm
      have hx : Cell7 _ g 0 ⟨y.frm, y.ca, F⟩ (pf 0) (mf 0) := c7.putF F
      have hrp := hP.put0 (by omega) (A := fun q => q ≤ w.heap.size) (fun q hq e => by omega) ch hx (fun i hi hi2 => (hP.cell7 i hi2).other g 6 _ (.inr (by omega)))
       hpp hmm
      have hro := (hO.step ch (fun q hq e => hd q (.inl (by subst e; exact own_slice.2 rfl)) hq)).read (A := fun q => q ≤ w.heap.size) (fun q hq e => by have := (hO.lt q hq).1; omega)
      clear c7 hfz hx hy hpp hmm
      have hF := Lib.hid (TuD.fin (R := w.heap.size) (X := X) (t := ⟨t.items, t.ps.set 0 ⟨y.frm, y.ca, F⟩, t.reqs⟩) (v0 := .int .i64 t.items) (v1 := .slice (some ⟨g, 0, none⟩) t.ps.length p3) (v2 := .slice r1 r2 r3) hcu hch ⟨hfar.1, hfar.2.1, hfar.2.2.1, hfar.2.2.2.1⟩ ⟨_, _, rfl, hrp, hro⟩)
      obtain ⟨z0, z1, z2, _⟩ := ((hbr.set0 (.int .i64 t.items)).set1 (.slice (some ⟨g, 0, none⟩) t.ps.length p3)).set2 (.slice r1 r2 r3)
      clear h hrp hro hcu hch hbr hP hO hd ch
      go_wp2_with fail
      exact bodyPost_ret (v := .agg #[.int .i64 t.items, .slice (some ⟨g, 0, none⟩) t.ps.length p3, .slice r1 r2 r3]) (by simp [results, Tryz.results55, go_sem, z0, z1, z2]) rfl ⟨_, ⟨t.items, t.ps.set 0 ⟨y.frm, y.ca, F⟩, t.reqs⟩, rfl, hF.out.1, (by show (t.ps.set 0 _).length ≤ 12; simp; omega), (by show t.reqs.length ≤ 61; omega), hF.out.2.1.more (by omega), hF.out.2.2⟩
     ·skip
      obtain ⟨a, cap, he, _⟩ := hP.os.view
      simp only [Value.slice.injEq] at he
      have hl0 : ¬ (0 : Int) < (p2 : Int) := by omega
      clear he
      have ch := Chg.refl (fun q => q = X) w4
      have hcu := h.cur
      have hch := h.chg
      have hbr := h.br
      have hrp := hP.readS (by omega) ch (fun q hq e => by omega) (A := fun q => q ≤ w.heap.size) (fun q hq e => by omega)
      have hro := hO.readS ch (fun q hq e => by omega) (A := fun q => q ≤ w.heap.size) (fun q hq e => by omega)
      have hF := Lib.hid (TuD.fin (R := w.heap.size) (X := X) (t := t) (v0 := .int .i64 t.items) (v1 := .slice p1 p2 p3) (v2 := .slice r1 r2 r3) hcu hch ⟨hfar.1, hfar.2.1, hfar.2.2.1, hfar.2.2.2.1⟩ ⟨_, _, rfl, hrp, hro⟩)
      obtain ⟨z0, z1, z2, _⟩ := ((hbr.set0 (.int .i64 t.items)).set1 (.slice p1 p2 p3)).set2 (.slice r1 r2 r3)
      clear h hrp hro hcu hch hbr hP hO hd ch
      go_wp2_with fail
      exact bodyPost_ret (v := .agg #[.int .i64 t.items, .slice p1 p2 p3, .slice r1 r2 r3]) (by simp [results, Tryz.results55, go_sem, z0, z1, z2]) rfl ⟨_, t, rfl, hF.out.1, (by omega), (by omega), hF.out.2.1.more (by omega), hF.out.2.2⟩
    by_cases hxe : x = 4
    ·subst hxe
     obtain ⟨pv, pf, mf, rv, he, hP, hO, hd⟩ := id h.ta
     simp only [Value.agg.injEq, Array.mk.injEq, List.cons.injEq, and_true, true_and] at he
     obtain ⟨rfl, rfl⟩ := he
     obtain ⟨c0, c1, c2, cf⟩ := id h.bx
     have cf0 := cf 0
     have cf1 := cf 1
     have cf2 := cf 2
     clear cf
     obtain ⟨e0, e1, e2, ef⟩ := id h.br
     have ef0 := ef 0
     have ef1 := ef 1
     have ef2 := ef 2
     clear ef
     by_cases hpos : 0 < t.ps.length
     ·have hl0 : (0 : Int) < (t.ps.length : Int) := by omega
      obtain ⟨a0, cap0, he0, _⟩ := hP.os.view
      simp only [Value.slice.injEq] at he0
      obtain ⟨rfl, rfl, rfl⟩ := he0
      go_wp2_with fail
      refine wp_region_K (S := fun W => W.cell? ⟨X, 0, none⟩ = some (.int .i64 t.items) ∧ W.cell? ⟨X, 1, none⟩ = some (.slice p1 t.ps.length p3) ∧ W.cell? ⟨X, 2, none⟩ = some (.slice r1 r2 r3)) (k := 12) (by kernel_rfl) ?_
      clear hP hO hd c0 c1 c2 cf0 cf1 cf2 e0 e1 e2 ef0 ef1 ef2
      replace h := h.keep (drewN0 _)
      generalize World.drew _ = WQ at h ⊢
      obtain ⟨pv, pf, mf, rv, he, hP, hO, hd⟩ := id h.ta
      simp only [Value.agg.injEq, Array.mk.injEq, List.cons.injEq, and_true, true_and] at he
      obtain ⟨rfl, rfl⟩ := he
      obtain ⟨c0, c1, c2, cf⟩ := id h.bx
      have cf0 := cf 0
      have cf1 := cf 1
      have cf2 := cf 2
      clear cf
      obtain ⟨e0, e1, e2, ef⟩ := id h.br
      have ef0 := ef 0
      have ef1 := ef 1
      have ef2 := ef 2
      clear ef
      have hS : WQ.cell? ⟨X, 0, none⟩ = some (.int .i64 t.items) ∧ WQ.cell? ⟨X, 1, none⟩ = some (.slice p1 t.ps.length p3) ∧ WQ.cell? ⟨X, 2, none⟩ = some (.slice r1 r2 r3) := ⟨c0, c1, c2⟩
      obtain ⟨ra', rcap, he2, _⟩ := hO.view
      simp only [Value.slice.injEq] at he2
      obtain ⟨rfl, rfl, rfl⟩ := he2
      clear c0 c1 c2 cf0 cf1 cf2 e0 e1 e2 ef0 ef1 ef2
      have hw9 : IntKind.i64.wrap ((t.reqs.length : Int) + 1) = (t.reqs.length : Int) + 1 := IntWalk.i64_in _ (by omega)
      refine wpAnyK_take0 0 (.pointer (some ⟨X, 1, none⟩)) rfl (by kernel_rfl) (fun _ _ _ h => h) hS rfl (by intro w; go_simp) ?_
      simp only [zA, zC, zD, zE, zF, zG]
      refine wpAnyK_takeT 1 (.slice p1 t.ps.length p3) rfl (by kernel_rfl) (fun _ _ _ h => h) hS rfl (by intro w hSw; go_simp) ?_
      simp only [zA, zB, zC, zD, zE, zF, zG]
      refine wpAnyK_take0 2 (.pointer (some ⟨b, 0, none⟩)) rfl (by kernel_rfl) (fun _ _ _ h => h) hS rfl (by intro w; go_simp) ?_
      simp only [zA, zB, zC, zD, zE, zF, zG]
      refine wpAnyK_take0 3 (.pointer (some ⟨X, 2, none⟩)) rfl (by kernel_rfl) (fun _ _ _ h => h) hS rfl (by intro w; go_simp) ?_
      simp only [zA, zB, zC, zD, zE, zF, zG]
      refine wpAnyK_takeT 4 (.slice r1 t.reqs.length r3) rfl (by kernel_rfl) (fun _ _ _ h => h) hS rfl (by intro w hSw; go_simp) ?_
      simp only [zA, zB, zC, zD, zE, zF, zG]
      refine wpAnyK_take0 5 (.int .i64 (t.reqs.length : Int)) rfl (by kernel_rfl) (fun _ _ _ h => h) hS rfl (by intro w; go_simp) ?_
      simp only [zA, zB, zC, zD, zE, zF, zG]
      refine wpAnyK_take0 6 (.pointer (some ⟨X, 2, none⟩)) rfl (by kernel_rfl) (fun _ _ _ h => h) hS rfl (by intro w; go_simp) ?_
      simp only [zA, zB, zC, zD, zE, zF, zG]
      refine wpAnyK_takeT 7 (.slice r1 t.reqs.length r3) rfl (by kernel_rfl) (fun _ _ _ h => h) hS rfl (by intro w hSw; go_simp) ?_
      simp only [zA, zB, zC, zD, zE, zF, zG]
      refine wpAnyK_take0 8 (.int .i64 (t.reqs.length : Int)) rfl (by kernel_rfl) (fun _ _ _ h => h) hS rfl (by intro w; go_simp) ?_
      simp only [zA, zB, zC, zD, zE, zF, zG]
      refine wpAnyK_take0 9 (.int .i64 ((t.reqs.length : Int) + 1)) rfl (by kernel_rfl) (fun _ _ _ h => h) hS rfl (by intro w; go_simp) ?_
      simp only [zA, zB, zC, zD, zE, zF, zG]
      refine wpAnyK_1 10 (by kernel_rfl) (wpOpK' rfl rfl ?_)
      intro K0 hK0
      have ka := (Chg.refl No WQ).alloc (.cells #[.int .i64 (-1), .int .i64 0, .int .i64 1, .int .i64 (t.reqs.length : Int), .int .i64 ((t.reqs.length : Int) + 1)] 3)
      unfold Oper.wp execOp
      go_simp
      refine hK0.out _ _ ⟨(h.bx.keep ka).c0, (h.bx.keep ka).c1, (h.bx.keep ka).c2⟩ ?_
      clear hK0 K0 ka
      simp only [List.setIfInBounds_toArray]
      refine wpAnyK_1 11 (by kernel_rfl) (wpOpK' rfl rfl ?_)
      intro K0 hK0
      refine ocallE (f := 92) (args := #[.pointer (some ⟨b, 0, none⟩), .slice (some ⟨WQ.heap.size, 0, none⟩) 5 5]) (φ := fun v W' => ∃ y : Int, v = .int .i64 y ∧ Cur W' b B (K' + 2 + 2) ∧ Chg (fun q => q = b) WQ W') (by go_simp) ((among_lit b B (K' + 2) WQ [-1, 0, 1, (t.reqs.length : Int), (t.reqs.length : Int) + 1] _ _ _ _ _ rfl rfl rfl rfl h.cur (by omega) (by simp) (by simp)).mono (fun e W' ⟨x, h1, _, h5, h6⟩ => ⟨_, h1, x, rfl, h5, h6⟩)) (fun v2 w6 h2 => ?_)
      obtain ⟨F, rfl, hc2, k2⟩ := h2
      replace h := h.call hc2 k2
      refine hK0.out _ _ ⟨h.bx.c0, h.bx.c1, h.bx.c2⟩ ?_
      clear hK0 K0 hS hP hO hd hc2 k2
      simp only [zA, zB, zC, zD, zE, zF, zG]
      refine wpAnyK_tail 12 rfl (by kernel_rfl) ?_
      simp only [List.drop_succ_cons, List.drop_zero]
      obtain ⟨pv, pf, mf, rv, he, hP, hO, hd⟩ := id h.ta
      simp only [Value.agg.injEq, Array.mk.injEq, List.cons.injEq, and_true, true_and] at he
      obtain ⟨rfl, rfl⟩ := he
      obtain ⟨c0, c1, c2, cf⟩ := id h.bx
      have cf0 := cf 0
      have cf1 := cf 1
      have cf2 := cf 2
      clear cf
      obtain ⟨e0, e1, e2, ef⟩ := id h.br
      have ef0 := ef 0
      have ef1 := ef 1
      have ef2 := ef 2
      clear ef
      obtain ⟨a, cap, he, hv2, hv3, hv4, hv5⟩ := hP.os.view
      simp only [Value.slice.injEq] at he
      obtain ⟨rfl, heN, rfl⟩ := he
      try subst heN
      obtain ⟨g, rfl, hg1, hg2, _, hfz⟩ := hv5 (by omega)
      have c7 := hP.cell7 0 hpos
      rw [Nat.zero_mul] at c7
      obtain ⟨y, hy⟩ : ∃ y, t.ps.getD 0 dPl = y := ⟨_, rfl⟩
      rw [hy] at c7
      have hgX : ¬ g = X := by omega
      have hgX' : ¬ X = g := by omega
      have hgR : ¬ g = w.heap.size := by omega
      have hgR' : ¬ w.heap.size = g := by omega
      clear hv2 hv3 hv4 hv5
      have g6 : w6.cell? ⟨g, 0, none⟩ = some (.int .i64 y.frm) := c7.c0
      have gz := hfz 0
      have ch := (Chg.refl (fun q => q = g) w6).setCell (p := ⟨g, 0, none⟩) (fun _ => rfl) (.int .i64 F)
      have hcu := h.cur.step ch (fun q hq => by omega)
      have hch := h.chg.step ch (fun q hq hl => by omega)
      have hbr := h.br.far ⟨g, 0, none⟩ (.int .i64 F) (by show g ≠ _; omega)
      have hpp := ((hP.pg 0 hpos).step ch (fun q hq e => hP.far 0 hpos q (.inl hq) (by subst e; exact own_slice.2 rfl))).read (A := fun q => q ≤ w.heap.size) (fun q hq e => by have := ((hP.pg 0 hpos).lt q hq).1; omega)
      have hmm := ((hP.mq 0 hpos).step ch (fun q hq e => hP.far 0 hpos q (.inr hq) (by subst e; exact own_slice.2 rfl))).read (A := fun q => q ≤ w.heap.size) (fun q hq e => by have := ((hP.mq 0 hpos).lt q hq).1; omega)
      rw [hy] at hpp hmm
      have hx : Cell7 _ g 0 ⟨F, y.ca, y.fa⟩ (pf 0) (mf 0) := c7.put0 F
      have hrp := hP.put0 (by omega) (A := fun q => q ≤ w.heap.size) (fun q hq e => by omega) ch hx (fun i hi hi2 => (hP.cell7 i hi2).other g 0 _ (.inr (by omega)))
       hpp hmm
      have hro := (hO.step ch (fun q hq e => hd q (.inl (by subst e; exact own_slice.2 rfl)) hq)).read (A := fun q => q ≤ w.heap.size) (fun q hq e => by have := (hO.lt q hq).1; omega)
      clear c7 hfz hx hy hpp hmm
      have hF := Lib.hid (TuD.fin (R := w.heap.size) (X := X) (t := ⟨t.items, t.ps.set 0 ⟨F, y.ca, y.fa⟩, t.reqs⟩) (v0 := .int .i64 t.items) (v1 := .slice (some ⟨g, 0, none⟩) t.ps.length p3) (v2 := .slice r1 t.reqs.length r3) hcu hch ⟨hfar.1, hfar.2.1, hfar.2.2.1, hfar.2.2.2.1⟩ ⟨_, _, rfl, hrp, hro⟩)
      obtain ⟨z0, z1, z2, _⟩ := ((hbr.set0 (.int .i64 t.items)).set1 (.slice (some ⟨g, 0, none⟩) t.ps.length p3)).set2 (.slice r1 t.reqs.length r3)
      clear h hrp hro hcu hch hbr hP hO hd ch
      go_wp2_with fail
      exact bodyPost_ret (v := .agg #[.int .i64 t.items, .slice (some ⟨g, 0, none⟩) t.ps.length p3, .slice r1 t.reqs.length r3]) (by simp [results, Tryz.results55, go_sem, z0, z1, z2]) rfl ⟨_, ⟨t.items, t.ps.set 0 ⟨F, y.ca, y.fa⟩, t.reqs⟩, rfl, hF.out.1, (by show (t.ps.set 0 _).length ≤ 12; simp; omega), (by show t.reqs.length ≤ 61; omega), hF.out.2.1.more (by omega), hF.out.2.2⟩
     ·skip
      obtain ⟨a, cap, he, _⟩ := hP.os.view
      simp only [Value.slice.injEq] at he
      have hl0 : ¬ (0 : Int) < (p2 : Int) := by omega
      clear he
      have ch := Chg.refl (fun q => q = X) w4
      have hcu := h.cur
      have hch := h.chg
      have hbr := h.br
      have hrp := hP.readS (by omega) ch (fun q hq e => by omega) (A := fun q => q ≤ w.heap.size) (fun q hq e => by omega)
      have hro := hO.readS ch (fun q hq e => by omega) (A := fun q => q ≤ w.heap.size) (fun q hq e => by omega)
      have hF := Lib.hid (TuD.fin (R := w.heap.size) (X := X) (t := t) (v0 := .int .i64 t.items) (v1 := .slice p1 p2 p3) (v2 := .slice r1 r2 r3) hcu hch ⟨hfar.1, hfar.2.1, hfar.2.2.1, hfar.2.2.2.1⟩ ⟨_, _, rfl, hrp, hro⟩)
      obtain ⟨z0, z1, z2, _⟩ := ((hbr.set0 (.int .i64 t.items)).set1 (.slice p1 p2 p3)).set2 (.slice r1 r2 r3)
      clear h hrp hro hcu hch hbr hP hO hd ch
      go_wp2_with fail
      exact bodyPost_ret (v := .agg #[.int .i64 t.items, .slice p1 p2 p3, .slice r1 r2 r3]) (by simp [results, Tryz.results55, go_sem, z0, z1, z2]) rfl ⟨_, t, rfl, hF.out.1, (by omega), (by omega), hF.out.2.1.more (by omega), hF.out.2.2⟩
    by_cases hxf : x = 5
    ·subst hxf
     obtain ⟨pv, pf, mf, rv, he, hP, hO, hd⟩ := id h.ta
     simp only [Value.agg.injEq, Array.mk.injEq, List.cons.injEq, and_true, true_and] at he
     obtain ⟨rfl, rfl⟩ := he
     obtain ⟨c0, c1, c2, cf⟩ := id h.bx
     have cf0 := cf 0
     have cf1 := cf 1
     have cf2 := cf 2
     clear cf
     obtain ⟨e0, e1, e2, ef⟩ := id h.br
     have ef0 := ef 0
     have ef1 := ef 1
     have ef2 := ef 2
     clear ef
     by_cases hpos : 0 < t.ps.length
     ·have hl0 : (0 : Int) < (t.ps.length : Int) := by omega
      obtain ⟨a0, cap0, he0, _⟩ := hP.os.view
      simp only [Value.slice.injEq] at he0
      obtain ⟨rfl, rfl, rfl⟩ := he0
      go_wp2_with fail
      refine wp_region_K (S := fun W => W.cell? ⟨X, 0, none⟩ = some (.int .i64 t.items) ∧ W.cell? ⟨X, 1, none⟩ = some (.slice p1 t.ps.length p3) ∧ W.cell? ⟨X, 2, none⟩ = some (.slice r1 r2 r3)) (k := 6) (by kernel_rfl) ?_
      clear hP hO hd c0 c1 c2 cf0 cf1 cf2 e0 e1 e2 ef0 ef1 ef2
      replace h := h.keep (drewN0 _)
      generalize World.drew _ = WQ at h ⊢
      obtain ⟨pv, pf, mf, rv, he, hP, hO, hd⟩ := id h.ta
      simp only [Value.agg.injEq, Array.mk.injEq, List.cons.injEq, and_true, true_and] at he
      obtain ⟨rfl, rfl⟩ := he
      obtain ⟨c0, c1, c2, cf⟩ := id h.bx
      have cf0 := cf 0
      have cf1 := cf 1
      have cf2 := cf 2
      clear cf
      obtain ⟨e0, e1, e2, ef⟩ := id h.br
      have ef0 := ef 0
      have ef1 := ef 1
      have ef2 := ef 2
      clear ef
      have hS : WQ.cell? ⟨X, 0, none⟩ = some (.int .i64 t.items) ∧ WQ.cell? ⟨X, 1, none⟩ = some (.slice p1 t.ps.length p3) ∧ WQ.cell? ⟨X, 2, none⟩ = some (.slice r1 r2 r3) := ⟨c0, c1, c2⟩
      clear c0 c1 c2 cf0 cf1 cf2 e0 e1 e2 ef0 ef1 ef2
      refine wpAnyK_take0 0 (.pointer (some ⟨X, 1, none⟩)) rfl (by kernel_rfl) (fun _ _ _ h => h) hS rfl (by intro w; go_simp) ?_
      simp only [zA, zC, zD, zE, zF, zG]
      refine wpAnyK_takeT 1 (.slice p1 t.ps.length p3) rfl (by kernel_rfl) (fun _ _ _ h => h) hS rfl (by intro w hSw; go_simp) ?_
      simp only [zA, zB, zC, zD, zE, zF, zG]
      refine wpAnyK_take0 2 (.pointer (some ⟨b, 0, none⟩)) rfl (by kernel_rfl) (fun _ _ _ h => h) hS rfl (by intro w; go_simp) ?_
      simp only [zA, zB, zC, zD, zE, zF, zG]
      refine wpAnyK_take0 3 (.pointer (some ⟨X, 0, none⟩)) rfl (by kernel_rfl) (fun _ _ _ h => h) hS rfl (by intro w; go_simp) ?_
      simp only [zA, zB, zC, zD, zE, zF, zG]
      refine wpAnyK_takeT 4 (.int .i64 t.items) rfl (by kernel_rfl) (fun _ _ _ h => h) hS rfl (by intro w hSw; go_simp) ?_
      simp only [zA, zB, zC, zD, zE, zF, zG]
      have hXl := h.bx.lt
      have hgq : ∀ q, own (.slice p1 t.ps.length p3) q → q < WQ.heap.size := fun q hq => (hP.os.lt q hq).2
      refine wpAnyK_1 5 (by kernel_rfl) (wpOpK' rfl rfl ?_)
      intro K0 hK0
      refine ocallE (f := 95) (args := #[.pointer (some ⟨b, 0, none⟩), .int .i64 t.items]) (φ := fun v W' => ∃ c : Ca, RCO WQ.heap.size W' v c ∧ Cur W' b B (K' + 2 + 1000) ∧ Chg (fun q => q = b) WQ W') (by go_simp) ((cache_any b B (K' + 2) t.items WQ h.cur (by omega) (by omega)).mono (fun e W' ⟨v, c, h1, h2, h5, h6⟩ => ⟨v, h1, c, h2, h5, h6⟩)) (fun v2 w6 h2 => ?_)
      obtain ⟨c, hRC, hc2, k2⟩ := h2
      replace h := h.call hc2 k2
      refine hK0.out _ _ ⟨h.bx.c0, h.bx.c1, h.bx.c2⟩ ?_
      clear hK0 K0 hS hP hO hd hc2 k2
      simp only [zA, zB, zC, zD, zE, zF, zG]
      obtain ⟨pv6, mv6, rfl, hcp, hcm, _⟩ := hRC
      obtain ⟨x1, x2, x3, rfl⟩ := hcp.shape
      obtain ⟨y1, y2, y3, rfl⟩ := hcm.shape
      refine wpAnyK_tail 6 rfl (by kernel_rfl) ?_
      simp only [List.drop_succ_cons, List.drop_zero]
      obtain ⟨pv, pf, mf, rv, he, hP, hO, hd⟩ := id h.ta
      simp only [Value.agg.injEq, Array.mk.injEq, List.cons.injEq, and_true, true_and] at he
      obtain ⟨rfl, rfl⟩ := he
      obtain ⟨c0, c1, c2, cf⟩ := id h.bx
      have cf0 := cf 0
      have cf1 := cf 1
      have cf2 := cf 2
      clear cf
      obtain ⟨e0, e1, e2, ef⟩ := id h.br
      have ef0 := ef 0
      have ef1 := ef 1
      have ef2 := ef 2
      clear ef
      obtain ⟨a, cap, he, hv2, hv3, hv4, hv5⟩ := hP.os.view
      simp only [Value.slice.injEq] at he
      obtain ⟨rfl, heN, rfl⟩ := he
      try subst heN
      obtain ⟨g, rfl, hg1, hg2, _, hfz⟩ := hv5 (by omega)
      have c7 := hP.cell7 0 hpos
      rw [Nat.zero_mul] at c7
      obtain ⟨y, hy⟩ : ∃ y, t.ps.getD 0 dPl = y := ⟨_, rfl⟩
      rw [hy] at c7
      have hgX : ¬ g = X := by omega
      have hgX' : ¬ X = g := by omega
      have hgR : ¬ g = w.heap.size := by omega
      have hgR' : ¬ w.heap.size = g := by omega
      clear hv2 hv3 hv4 hv5
      have hgW := hgq g (own_slice.2 rfl)
      have g1' : w6.cell? ⟨g, 1, none⟩ = some (.int .i64 y.ca.pol) := c7.c1
      have g2' : w6.cell? ⟨g, 2, none⟩ = some (.int .i64 y.ca.size) := c7.c2
      have g3' : w6.cell? ⟨g, 3, none⟩ = some (pf 0) := c7.c3
      have g4' : w6.cell? ⟨g, 4, none⟩ = some (mf 0) := c7.c4
      have g5' : w6.cell? ⟨g, 5, none⟩ = some (.int .i64 y.ca.hand) := c7.c5
      have gz1 := hfz 1
      have gz2 := hfz 2
      have gz3 := hfz 3
      have gz4 := hfz 4
      have gz5 := hfz 5
      have ch := (((((Chg.refl (fun q => q = g) w6).setCell (p := ⟨g, 1, none⟩) (fun _ => rfl) (.int .i64 c.pol)).setCell (p := ⟨g, 2, none⟩) (fun _ => rfl) (.int .i64 c.size)).setCell (p := ⟨g, 3, none⟩) (fun _ => rfl) (.slice x1 x2 x3)).setCell (p := ⟨g, 4, none⟩) (fun _ => rfl) (.slice y1 y2 y3)).setCell (p := ⟨g, 5, none⟩) (fun _ => rfl) (.int .i64 c.hand)
      have hcu := h.cur.step ch (fun q hq => by omega)
      have hch := h.chg.step ch (fun q hq hl => by omega)
      have hbr := h.br.step ch (by omega)
      have hx : Cell7 _ g 0 ⟨y.frm, c, y.fa⟩ (.slice x1 x2 x3) (.slice y1 y2 y3) := c7.putC c (.slice x1 x2 x3) (.slice y1 y2 y3)
      have hrp := hP.put0 (by omega) (A := fun q => q ≤ w.heap.size) (fun q hq e => by omega) ch hx (fun i hi hi2 => (((((hP.cell7 i hi2).other g 1 _ (.inr (by omega))).other g 2 _ (.inr (by omega))).other g 3 _ (.inr (by omega))).other g 4 _ (.inr (by omega))).other g 5 _ (.inr (by omega)))
       ((hcp.step ch (fun q hq e => by have := (hcp.lt q hq).1; omega)).read (fun q hq e => by have := (hcp.lt q hq).1; omega))
       ((hcm.step ch (fun q hq e => by have := (hcm.lt q hq).1; omega)).read (fun q hq e => by have := (hcm.lt q hq).1; omega))
      have hro := (hO.step ch (fun q hq e => hd q (.inl (by subst e; exact own_slice.2 rfl)) hq)).read (A := fun q => q ≤ w.heap.size) (fun q hq e => by have := (hO.lt q hq).1; omega)
      have hbx := h.bx.step ch (by omega)
      refine wpList_plain rfl (fun K1 hK1 => ?_)
      unfold Oper.wp execOp
      go_simp
      refine hK1 _ _ ?_
      try simp only [zD, zE, zF, zG]
      clear hK1 K1
      refine wpList_plain rfl (fun K1 hK1 => ?_)
      unfold Oper.wp execOp
      go_simp
      refine hK1 _ _ ?_
      try simp only [zD, zE, zF, zG]
      clear hK1 K1
      refine wpList_plain rfl (fun K1 hK1 => ?_)
      unfold Oper.wp execOp
      go_simp
      refine hK1 _ _ ?_
      clear hK1 K1 c7 hfz hx hy hcp hcm g1' g2' g3' g4' g5' gz1 gz2 gz3 gz4 gz5 c0 c1 c2 cf0 cf1 cf2 e0 e1 e2 ef0 ef1 ef2
      generalize ((((w6.setCell ⟨g, 1, none⟩ (.int .i64 c.pol)).setCell ⟨g, 2, none⟩ (.int .i64 c.size)).setCell ⟨g, 3, none⟩ (.slice x1 x2 x3)).setCell ⟨g, 4, none⟩ (.slice y1 y2 y3)).setCell ⟨g, 5, none⟩ (.int .i64 c.hand) = WN at hcu hch hbr hrp hro hbx ⊢
      have hbr0 := hbr
      obtain ⟨c0, c1, c2, cf⟩ := id hbx
      have cf0 := cf 0
      have cf1 := cf 1
      have cf2 := cf 2
      clear cf
      obtain ⟨e0, e1, e2, ef⟩ := id hbr0
      have ef0 := ef 0
      have ef1 := ef 1
      have ef2 := ef 2
      clear ef
      clear hbx hbr0 ch
      have ch := Chg.refl No WN
      have hF := Lib.hid (TuD.fin (R := w.heap.size) (X := X) (t := ⟨t.items, t.ps.set 0 ⟨y.frm, c, y.fa⟩, t.reqs⟩) (v0 := .int .i64 t.items) (v1 := .slice (some ⟨g, 0, none⟩) t.ps.length p3) (v2 := .slice r1 r2 r3) hcu hch ⟨hfar.1, hfar.2.1, hfar.2.2.1, hfar.2.2.2.1⟩ ⟨_, _, rfl, hrp, hro⟩)
      obtain ⟨z0, z1, z2, _⟩ := ((hbr.set0 (.int .i64 t.items)).set1 (.slice (some ⟨g, 0, none⟩) t.ps.length p3)).set2 (.slice r1 r2 r3)
      clear h hrp hro hcu hch hbr hP hO hd ch
      go_wp2_with fail
      exact bodyPost_ret (v := .agg #[.int .i64 t.items, .slice (some ⟨g, 0, none⟩) t.ps.length p3, .slice r1 r2 r3]) (by simp [results, Tryz.results55, go_sem, z0, z1, z2]) rfl ⟨_, ⟨t.items, t.ps.set 0 ⟨y.frm, c, y.fa⟩, t.reqs⟩, rfl, hF.out.1, (by show (t.ps.set 0 _).length ≤ 12; simp; omega), (by show t.reqs.length ≤ 61; omega), hF.out.2.1.more (by omega), hF.out.2.2⟩
     ·skip
      obtain ⟨a, cap, he, _⟩ := hP.os.view
      simp only [Value.slice.injEq] at he
      have hl0 : ¬ (0 : Int) < (p2 : Int) := by omega
      clear he
      have ch := Chg.refl (fun q => q = X) w4
      have hcu := h.cur
      have hch := h.chg
      have hbr := h.br
      have hrp := hP.readS (by omega) ch (fun q hq e => by omega) (A := fun q => q ≤ w.heap.size) (fun q hq e => by omega)
      have hro := hO.readS ch (fun q hq e => by omega) (A := fun q => q ≤ w.heap.size) (fun q hq e => by omega)
      have hF := Lib.hid (TuD.fin (R := w.heap.size) (X := X) (t := t) (v0 := .int .i64 t.items) (v1 := .slice p1 p2 p3) (v2 := .slice r1 r2 r3) hcu hch ⟨hfar.1, hfar.2.1, hfar.2.2.1, hfar.2.2.2.1⟩ ⟨_, _, rfl, hrp, hro⟩)
      obtain ⟨z0, z1, z2, _⟩ := ((hbr.set0 (.int .i64 t.items)).set1 (.slice p1 p2 p3)).set2 (.slice r1 r2 r3)
      clear h hrp hro hcu hch hbr hP hO hd ch
      go_wp2_with fail
      exact bodyPost_ret (v := .agg #[.int .i64 t.items, .slice p1 p2 p3, .slice r1 r2 r3]) (by simp [results, Tryz.results55, go_sem, z0, z1, z2]) rfl ⟨_, t, rfl, hF.out.1, (by omega), (by omega), hF.out.2.1.more (by omega), hF.out.2.2⟩
    obtain ⟨pv, pf, mf, rv, he, hP, hO, hd⟩ := id h.ta
    simp only [Value.agg.injEq, Array.mk.injEq, List.cons.injEq, and_true, true_and] at he
    obtain ⟨rfl, rfl⟩ := he
    obtain ⟨c0, c1, c2, cf⟩ := id h.bx
    have cf0 := cf 0
    have cf1 := cf 1
    have cf2 := cf 2
    clear cf
    obtain ⟨e0, e1, e2, ef⟩ := id h.br
    have ef0 := ef 0
    have ef1 := ef 1
    have ef2 := ef 2
    clear ef
    have ch := Chg.refl (fun q => q = X) w4
    have hcu := h.cur
    have hch := h.chg
    have hbr := h.br
    have hrp := hP.readS (by omega) ch (fun q hq e => by omega) (A := fun q => q ≤ w.heap.size) (fun q hq e => by omega)
    have hro := hO.readS ch (fun q hq e => by omega) (A := fun q => q ≤ w.heap.size) (fun q hq e => by omega)
    have hF := Lib.hid (TuD.fin (R := w.heap.size) (X := X) (t := t) (v0 := .int .i64 t.items) (v1 := .slice p1 p2 p3) (v2 := .slice r1 r2 r3) hcu hch ⟨hfar.1, hfar.2.1, hfar.2.2.1, hfar.2.2.2.1⟩ ⟨_, _, rfl, hrp, hro⟩)
    obtain ⟨z0, z1, z2, _⟩ := ((hbr.set0 (.int .i64 t.items)).set1 (.slice p1 p2 p3)).set2 (.slice r1 r2 r3)
    clear h hrp hro hcu hch hbr hP hO hd ch
    go_wp2_with fail
    exact bodyPost_ret (v := .agg #[.int .i64 t.items, .slice p1 p2 p3, .slice r1 r2 r3]) (by simp [results, Tryz.results55, go_sem, z0, z1, z2]) rfl ⟨_, t, rfl, hF.out.1, (by omega), (by omega), hF.out.2.1.more (by omega), hF.out.2.2⟩
end Go.Proofs.YtdgcohoneijleaaGreatDoor
