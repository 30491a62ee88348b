import Derived.Test.YtdgcohoneijleaaGreatN
import Derived.Test.YtdgcohoneijleaaGreatM
/- Cache.step of the implementation -/
namespace Go.Proofs.YtdgcohoneijleaaGreat
open Go.RowKit

set_option maxRecDepth 100000 in
set_option maxHeartbeats 1000000 in
theorem step_hit (base b : Nat) (c : Ca) (x : Int) (pv mv : Value) (w : World) (h : MC base w b c pv mv) (hb : base ≤ w.heap.size) (hok : Ok c) (i : Nat) (hi : i < c.pages.length) (hat : atI c.pages x = i) (hhas : hasB c.pages x = true) :
    Calls Tryz.prog 35 #[.pointer (some ⟨b, 0, none⟩), .int .i64 x] w (Ret fun v' w' => v' = .bool (!hasB c.pages x) ∧ After base w b pv mv (stepC c x) w') := by
  have e : stepC c x = hitC c i := by unfold stepC; rw [if_pos hhas, hat]; rfl
  rw [e, hhas]; clear e
  obtain ⟨c0, c1, c2, c3, c4, hfb⟩ := id h.box
  have hge : (0 : Int) ≤ (i : Int) := Int.natCast_nonneg _
  have HA := Lib.hid hat
  clear hat hhas
  go_enter Tryz.func35, Tryz.ntmps35
  go_wp2_with fail
  refine (Index_any No _ c.pages x w h.pages.readNo).mono ?_
  rintro e w1 ⟨rfl, rfl⟩
  rw [HA.out]
  go_wp2_with fail
  refine (hit_any base b c pv mv i w h hb hok hi).mono ?_
  rintro e w2 ⟨v2, rfl, rfl, hA⟩
  go_wp2
  go_ret
  exact ⟨_, rfl, rfl, hA⟩

set_option maxRecDepth 100000 in
set_option maxHeartbeats 1000000 in
theorem step_turn (base b : Nat) (c : Ca) (x : Int) (pv mv : Value) (w : World) (h : MC base w b c pv mv) (hb : base ≤ w.heap.size) (hok : Ok c) (h6 : c.pol = 6) (hat : atI c.pages x = -1) (hhas : hasB c.pages x = false) :
    Calls Tryz.prog 35 #[.pointer (some ⟨b, 0, none⟩), .int .i64 x] w (Ret fun v' w' => v' = .bool (!hasB c.pages x) ∧ After base w b pv mv (stepC c x) w') := by
  have e : stepC c x = clockC c x := by unfold stepC faultC; rw [hhas]; simp [h6]
  rw [e, hhas]; clear e
  obtain ⟨c0, c1, c2, c3, c4, hfb⟩ := id h.box
  have c0' := c0
  rw [h6] at c0'
  have HA := Lib.hid hat
  clear hat hhas c0
  go_enter Tryz.func35, Tryz.ntmps35
  go_wp2_with fail
  refine (Index_any No _ c.pages x w h.pages.readNo).mono ?_
  rintro e w1 ⟨rfl, rfl⟩
  rw [HA.out]
  go_wp2_with fail
  refine (turn_any base b c x pv mv w h hb hok h6).mono ?_
  rintro e w2 ⟨v2, rfl, rfl, hA⟩
  go_wp2
  go_ret
  exact ⟨_, rfl, rfl, hA⟩

/-- 'After', its values named -/
structure AM (base : Nat) (w : World) (b : Nat) (pv mv : Value) (c : Ca) (W : World) (pv' mv' : Value) : Prop where
  mc : MC base W b c pv' mv'
  ch : Chg (foot b pv mv) w W
  fr : ∀ q, foot b pv' mv' q → foot b pv mv q ∨ w.heap.size ≤ q
theorem After.am {base b : Nat} {w : World} {pv mv : Value} {c : Ca} {W : World} (h : After base w b pv mv c W) : ∃ pv' mv', AM base w b pv mv c W pv' mv' :=
  let ⟨pv', mv', h1, h2, h3⟩ := h; ⟨pv', mv', h1, h2, h3⟩
theorem AM.after {base b : Nat} {w : World} {pv mv : Value} {c : Ca} {W : World} {pv' mv' : Value} (h : AM base w b pv mv c W pv' mv') : After base w b pv mv c W := ⟨pv', mv', h.mc, h.ch, h.fr⟩
theorem AM.refl {base b : Nat} {w : World} {pv mv : Value} {c : Ca} (h : MC base w b c pv mv) : AM base w b pv mv c w pv mv := ⟨h, Chg.refl _ w, fun _ e => .inl e⟩
theorem AM.keep {base b : Nat} {w : World} {pv mv : Value} {c : Ca} {W W' : World} {pv' mv' : Value} (h : AM base w b pv mv c W pv' mv') (hc : Chg No W W') : AM base w b pv mv c W' pv' mv' :=
  ⟨h.mc.keep hc (fun _ _ e => e), h.ch.keep hc, h.fr⟩
theorem AM.sub {base b : Nat} {w : World} {pv mv : Value} {c : Ca} {W : World} {pv' mv' : Value} (h : AM base w b pv mv c W pv' mv') (q : Nat) (hq : foot b pv' mv' q) (hl : q < w.heap.size) : foot b pv mv q := by
  rcases h.fr q hq with h1 | h1
  · exact h1
  · omega
theorem AM.ins2 {base b : Nat} {w : World} {pv mv : Value} {p k hd : Int} {ps ms : List Int} {W : World} {pv' mv' : Value} (h : AM base w b pv mv ⟨p, k, ps, ms, hd⟩ W pv' mv') {w3 : World} {v3 : Value} {l : List Int}
    (o : OI base w3 v3 l) (hc : Chg (own pv') W w3) (hf : ∀ q, own v3 q → own pv' q ∨ W.heap.size ≤ q) :
    Box w3 b (.int .i64 p) (.int .i64 k) pv' mv' (.int .i64 hd) ∧ AM base w b pv mv ⟨p, k, l, ms, hd⟩ (w3.setCell ⟨b, 2, none⟩ v3) v3 mv' := by
  have hb := h.mc.box.step hc h.mc.d2
  have hdv : ¬ own v3 b := fun hq => by
    rcases hf b hq with h1 | h1
    · exact h.mc.d2 h1
    · have := h.mc.box.lt; omega
  have hz := h.ch.size
  refine ⟨hb, ⟨hb.set2 _, o.set b 2 _ hdv, (h.mc.marks.step hc (fun q hq e => h.mc.apart q e hq)).set b 2 _ h.mc.d3, fun q hq hq' => ?_, hdv, h.mc.d3⟩, (h.ch.step hc (fun q hq hl => h.sub q (.inr (.inl hq)) hl)).setCell (fun _ => .inl rfl) _, fun q hq => ?_⟩
  · rcases hf q hq with h1 | h1
    · exact h.mc.apart q h1 hq'
    · have := (h.mc.marks.lt q hq').2; omega
  · rcases hq with rfl | hq | hq
    · exact .inl (.inl rfl)
    · rcases hf q hq with h1 | h1
      · exact h.fr q (.inr (.inl h1))
      · exact .inr (by omega)
    · exact h.fr q (.inr (.inr hq))
theorem AM.ins3 {base b : Nat} {w : World} {pv mv : Value} {p k hd : Int} {ps ms : List Int} {W : World} {pv' mv' : Value} (h : AM base w b pv mv ⟨p, k, ps, ms, hd⟩ W pv' mv') {w3 : World} {v3 : Value} {l : List Int}
    (o : OI base w3 v3 l) (hc : Chg (own mv') W w3) (hf : ∀ q, own v3 q → own mv' q ∨ W.heap.size ≤ q) :
    Box w3 b (.int .i64 p) (.int .i64 k) pv' mv' (.int .i64 hd) ∧ AM base w b pv mv ⟨p, k, ps, l, hd⟩ (w3.setCell ⟨b, 3, none⟩ v3) pv' v3 := by
  have hb := h.mc.box.step hc h.mc.d3
  have hdv : ¬ own v3 b := fun hq => by
    rcases hf b hq with h1 | h1
    · exact h.mc.d3 h1
    · have := h.mc.box.lt; omega
  have hz := h.ch.size
  refine ⟨hb, ⟨hb.set3 _, (h.mc.pages.step hc (fun q hq e => h.mc.apart q hq e)).set b 3 _ h.mc.d2, o.set b 3 _ hdv, fun q hq hq' => ?_, h.mc.d2, hdv⟩, (h.ch.step hc (fun q hq hl => h.sub q (.inr (.inr hq)) hl)).setCell (fun _ => .inl rfl) _, fun q hq => ?_⟩
  · rcases hf q hq' with h1 | h1
    · exact h.mc.apart q hq h1
    · have := (h.mc.pages.lt q hq).2; omega
  · rcases hq with rfl | hq | hq
    · exact .inl (.inl rfl)
    · exact h.fr q (.inr (.inl hq))
    · rcases hf q hq with h1 | h1
      · exact h.fr q (.inr (.inr h1))
      · exact .inr (by omega)

set_option maxRecDepth 100000 in
set_option maxHeartbeats 1000000 in
theorem step_out5 (base b : Nat) (p k : Int) (ps ms : List Int) (hd x : Int) (pv mv : Value) (w : World) (h : MC base w b ⟨p, k, ps, ms, hd⟩ pv mv) (hb : base ≤ w.heap.size) (hok : Ok ⟨p, k, ps, ms, hd⟩) (h6 : p ≠ 6) (h5 : p = 5) (hat : atI ps x = -1) (hf : ((ps.length : Int) == k) = true) :
    Calls Tryz.prog 35 #[.pointer (some ⟨b, 0, none⟩), .int .i64 x] w (Ret fun v' w' => v' = .bool true ∧ After base w b pv mv (faultC ⟨p, k, ps, ms, hd⟩ x) w') := by
  obtain ⟨ps', ms', hc1, hl1⟩ : ∃ ps' ms', (if (ps.length : Int) = k then outC ⟨p, k, ps, ms, hd⟩ else ⟨p, k, ps, ms, hd⟩) = ⟨p, k, ps', ms', hd⟩ ∧ Hid (ps'.length ≤ ps.length ∧ ms'.length ≤ ms.length) := by
    rw [if_pos (by simpa using hf)]
    exact ⟨_, _, rfl, Lib.hid ⟨by (split <;> simp [List.length_eraseIdx]) <;> (split <;> omega), by (split <;> simp [List.length_eraseIdx]) <;> (split <;> omega)⟩⟩
  have e : faultC ⟨p, k, ps, ms, hd⟩ x = ⟨p, k, x :: ps', 1 :: ms', hd⟩ := by
    rw [faultC_out _ _ h6]
    simp only [hc1]
    simp [h5]
  rw [e]; clear e
  have hpl : ps'.length < 17592186044416 := by have := h.pages.len; have := hl1.out; have := hok.len; have := hok.size; simp only at *; omega
  have hml : Hid (p = 5 → ms'.length < 17592186044416) := Lib.hid (fun e => by have := hl1.out; have := hok.marks (.inl e); have := hok.len; have := hok.size; simp only at *; omega)
  have hb6 : (p == 6) = false := by simpa using h6
  have hb5 : (p == 5) = true := by simpa using h5
  have HL := Lib.hid (show 0 < ps.length from by have := hok.size; simp at hf; simp only at this; omega)
  have HF := Lib.hid hf
  have HA := Lib.hid hat
  obtain ⟨a1, n1, q1, rfl⟩ := h.pages.shape
  obtain ⟨a2, n2, q2, rfl⟩ := h.marks.shape
  obtain ⟨c0, c1, c2, c3, c4, hfb⟩ := id h.box
  simp only at c0 c1 c4
  have H5 := Lib.hid h5
  clear hat hf h6 h5
  go_enter Tryz.func35, Tryz.ntmps35
  go_wp2_with fail
  refine (Index_any No _ ps x w h.pages.readNo).mono ?_
  rintro e w1 ⟨rfl, rfl⟩
  rw [HA.out]
  go_wp2_with fail
  refine (isFull_any p k _ _ hd ps No _ h.pages.readNo ⟨_, _, _, rfl⟩).mono ?_
  rintro e w1 ⟨v1, rfl, rfl, hk1⟩
  rw [HF.out]
  clear c0 c1 c2 c3 c4 hfb
  have A := (AM.refl h).keep hk1
  have hw1 := hk1.size
  go_wp2_with fail
  refine (takeOut_any base b ⟨p, k, ps, ms, hd⟩ _ _ w1 A.mc hok (by simpa using hb6) HL.out).mono ?_
  rintro e w2 ⟨v2, rfl, rfl, hA⟩
  rw [if_pos (by simpa using HF.out)] at hc1
  rw [hc1] at hA
  obtain ⟨pv', mv', hA'⟩ := hA.am
  have A' : AM base w b _ _ ⟨p, k, ps', ms', hd⟩ w2 pv' mv' := ⟨hA'.mc, A.ch.trans hA'.ch, fun q hq => (hA'.fr q hq).imp id (fun h => Nat.le_trans hw1 h)⟩
  have hz2 := A'.ch.size
  clear hA hA' A hk1
  generalize w2 = W at A' hz2 ⊢
  obtain ⟨a1', n1', q1', rfl⟩ := A'.mc.pages.shape
  obtain ⟨a2', n2', q2', rfl⟩ := A'.mc.marks.shape
  obtain ⟨c0, c1, c2, c3, c4, hfb⟩ := id A'.mc.box
  simp only at c0 c1 c4
  go_wp2_with fail
  refine (Insert0_any base _ _ W.heap.size x 3 _ (A'.mc.pages.alloc _) (by simp; omega) hpl (heap_alloc_new W _) (fun hq => by have := (A'.mc.pages.lt _ hq).2; omega)).mono ?_
  rintro e w3 ⟨v3, rfl, o3, k3, f3⟩
  obtain ⟨B3, A3⟩ := A'.ins2 o3 (((Chg.refl _ W).alloc _).trans k3) (fun q hq => (f3 q hq).imp id (fun h => by simp at h; omega))
  obtain ⟨a3, n3, q3, rfl⟩ := o3.shape
  clear c0 c1 c2 c3 c4 hfb
  obtain ⟨c0, c1, c2, c3, c4, hfb⟩ := id B3
  have fb2 := hfb 2
  go_wp2_with fail
  clear c0 c1 c2 c3 c4 hfb fb2
  have hsz : w3.heap.size = (w3.setCell ⟨b, 2, none⟩ (.slice a3 n3 q3)).heap.size := (by simp)
  generalize w3.setCell ⟨b, 2, none⟩ (.slice a3 n3 q3) = W3 at A3 hsz ⊢
  have HSZ := Lib.hid hsz
  clear hsz
  obtain ⟨c0, c1, c2, c3, c4, hfb⟩ := id A3.mc.box
  simp only at c0 c1 c4
  go_wp2_with fail
  rw [HSZ.out]
  refine (Insert0_any base _ _ W3.heap.size 1 3 _ (A3.mc.marks.alloc _) (by have := A3.ch.size; simp; omega) (hml.out H5.out) (heap_alloc_new W3 _) (fun hq => by have := (A3.mc.marks.lt _ hq).2; omega)).mono ?_
  rintro e w5 ⟨v5, rfl, o5, k5, f5⟩
  obtain ⟨B5, A5⟩ := A3.ins3 o5 (((Chg.refl _ W3).alloc _).trans k5) (fun q hq => (f5 q hq).imp id (fun h => by simp at h; omega))
  obtain ⟨a5, n5, q5, rfl⟩ := o5.shape
  clear c0 c1 c2 c3 c4 hfb
  obtain ⟨c0, c1, c2, c3, c4, hfb⟩ := id B5
  have fb3 := hfb 3
  go_wp2
  go_ret
  exact ⟨_, rfl, rfl, A5.after⟩

set_option maxRecDepth 100000 in
set_option maxHeartbeats 1000000 in
theorem step_out (base b : Nat) (p k : Int) (ps ms : List Int) (hd x : Int) (pv mv : Value) (w : World) (h : MC base w b ⟨p, k, ps, ms, hd⟩ pv mv) (hb : base ≤ w.heap.size) (hok : Ok ⟨p, k, ps, ms, hd⟩) (h6 : p ≠ 6) (h5 : p ≠ 5) (hat : atI ps x = -1) (hf : ((ps.length : Int) == k) = true) :
    Calls Tryz.prog 35 #[.pointer (some ⟨b, 0, none⟩), .int .i64 x] w (Ret fun v' w' => v' = .bool true ∧ After base w b pv mv (faultC ⟨p, k, ps, ms, hd⟩ x) w') := by
  obtain ⟨ps', ms', hc1, hl1⟩ : ∃ ps' ms', (if (ps.length : Int) = k then outC ⟨p, k, ps, ms, hd⟩ else ⟨p, k, ps, ms, hd⟩) = ⟨p, k, ps', ms', hd⟩ ∧ Hid (ps'.length ≤ ps.length ∧ ms'.length ≤ ms.length) := by
    rw [if_pos (by simpa using hf)]
    exact ⟨_, _, rfl, Lib.hid ⟨by (split <;> simp [List.length_eraseIdx]) <;> (split <;> omega), by (split <;> simp [List.length_eraseIdx]) <;> (split <;> omega)⟩⟩
  have e : faultC ⟨p, k, ps, ms, hd⟩ x = ⟨p, k, x :: ps', ms', hd⟩ := by
    rw [faultC_out _ _ h6]
    simp only [hc1]
    simp [h5]
  rw [e]; clear e
  have hpl : ps'.length < 17592186044416 := by have := h.pages.len; have := hl1.out; have := hok.len; have := hok.size; simp only at *; omega
  have hml : Hid (p = 5 → ms'.length < 17592186044416) := Lib.hid (fun e => by have := hl1.out; have := hok.marks (.inl e); have := hok.len; have := hok.size; simp only at *; omega)
  have hb6 : (p == 6) = false := by simpa using h6
  have hb5 : (p == 5) = false := by simpa using h5
  have HL := Lib.hid (show 0 < ps.length from by have := hok.size; simp at hf; simp only at this; omega)
  have HF := Lib.hid hf
  have HA := Lib.hid hat
  obtain ⟨a1, n1, q1, rfl⟩ := h.pages.shape
  obtain ⟨a2, n2, q2, rfl⟩ := h.marks.shape
  obtain ⟨c0, c1, c2, c3, c4, hfb⟩ := id h.box
  simp only at c0 c1 c4
  have H5 := Lib.hid h5
  clear hat hf h6 h5
  go_enter Tryz.func35, Tryz.ntmps35
  go_wp2_with fail
  refine (Index_any No _ ps x w h.pages.readNo).mono ?_
  rintro e w1 ⟨rfl, rfl⟩
  rw [HA.out]
  go_wp2_with fail
  refine (isFull_any p k _ _ hd ps No _ h.pages.readNo ⟨_, _, _, rfl⟩).mono ?_
  rintro e w1 ⟨v1, rfl, rfl, hk1⟩
  rw [HF.out]
  clear c0 c1 c2 c3 c4 hfb
  have A := (AM.refl h).keep hk1
  have hw1 := hk1.size
  go_wp2_with fail
  refine (takeOut_any base b ⟨p, k, ps, ms, hd⟩ _ _ w1 A.mc hok (by simpa using hb6) HL.out).mono ?_
  rintro e w2 ⟨v2, rfl, rfl, hA⟩
  rw [if_pos (by simpa using HF.out)] at hc1
  rw [hc1] at hA
  obtain ⟨pv', mv', hA'⟩ := hA.am
  have A' : AM base w b _ _ ⟨p, k, ps', ms', hd⟩ w2 pv' mv' := ⟨hA'.mc, A.ch.trans hA'.ch, fun q hq => (hA'.fr q hq).imp id (fun h => Nat.le_trans hw1 h)⟩
  have hz2 := A'.ch.size
  clear hA hA' A hk1
  generalize w2 = W at A' hz2 ⊢
  obtain ⟨a1', n1', q1', rfl⟩ := A'.mc.pages.shape
  obtain ⟨a2', n2', q2', rfl⟩ := A'.mc.marks.shape
  obtain ⟨c0, c1, c2, c3, c4, hfb⟩ := id A'.mc.box
  simp only at c0 c1 c4
  go_wp2_with fail
  refine (Insert0_any base _ _ W.heap.size x 3 _ (A'.mc.pages.alloc _) (by simp; omega) hpl (heap_alloc_new W _) (fun hq => by have := (A'.mc.pages.lt _ hq).2; omega)).mono ?_
  rintro e w3 ⟨v3, rfl, o3, k3, f3⟩
  obtain ⟨B3, A3⟩ := A'.ins2 o3 (((Chg.refl _ W).alloc _).trans k3) (fun q hq => (f3 q hq).imp id (fun h => by simp at h; omega))
  obtain ⟨a3, n3, q3, rfl⟩ := o3.shape
  clear c0 c1 c2 c3 c4 hfb
  obtain ⟨c0, c1, c2, c3, c4, hfb⟩ := id B3
  have fb2 := hfb 2
  go_wp2_with fail
  go_ret
  exact ⟨_, rfl, rfl, A3.after⟩

set_option maxRecDepth 100000 in
set_option maxHeartbeats 1000000 in
theorem step_in5 (base b : Nat) (p k : Int) (ps ms : List Int) (hd x : Int) (pv mv : Value) (w : World) (h : MC base w b ⟨p, k, ps, ms, hd⟩ pv mv) (hb : base ≤ w.heap.size) (hok : Ok ⟨p, k, ps, ms, hd⟩) (h6 : p ≠ 6) (h5 : p = 5) (hat : atI ps x = -1) (hf : ((ps.length : Int) == k) = false) :
    Calls Tryz.prog 35 #[.pointer (some ⟨b, 0, none⟩), .int .i64 x] w (Ret fun v' w' => v' = .bool true ∧ After base w b pv mv (faultC ⟨p, k, ps, ms, hd⟩ x) w') := by
  obtain ⟨ps', ms', hc1, hl1⟩ : ∃ ps' ms', (if (ps.length : Int) = k then outC ⟨p, k, ps, ms, hd⟩ else ⟨p, k, ps, ms, hd⟩) = ⟨p, k, ps', ms', hd⟩ ∧ Hid (ps'.length ≤ ps.length ∧ ms'.length ≤ ms.length) := by
    rw [if_neg (by simpa using hf)]
    exact ⟨_, _, rfl, Lib.hid ⟨Nat.le_refl _, Nat.le_refl _⟩⟩
  have e : faultC ⟨p, k, ps, ms, hd⟩ x = ⟨p, k, x :: ps', 1 :: ms', hd⟩ := by
    rw [faultC_out _ _ h6]
    simp only [hc1]
    simp [h5]
  rw [e]; clear e
  have hpl : ps'.length < 17592186044416 := by have := h.pages.len; have := hl1.out; have := hok.len; have := hok.size; simp only at *; omega
  have hml : Hid (p = 5 → ms'.length < 17592186044416) := Lib.hid (fun e => by have := hl1.out; have := hok.marks (.inl e); have := hok.len; have := hok.size; simp only at *; omega)
  have hb6 : (p == 6) = false := by simpa using h6
  have hb5 : (p == 5) = true := by simpa using h5
  have HL := Lib.hid (show True from by trivial)
  have HF := Lib.hid hf
  have HA := Lib.hid hat
  obtain ⟨a1, n1, q1, rfl⟩ := h.pages.shape
  obtain ⟨a2, n2, q2, rfl⟩ := h.marks.shape
  obtain ⟨c0, c1, c2, c3, c4, hfb⟩ := id h.box
  simp only at c0 c1 c4
  have H5 := Lib.hid h5
  clear hat hf h6 h5
  go_enter Tryz.func35, Tryz.ntmps35
  go_wp2_with fail
  refine (Index_any No _ ps x w h.pages.readNo).mono ?_
  rintro e w1 ⟨rfl, rfl⟩
  rw [HA.out]
  go_wp2_with fail
  refine (isFull_any p k _ _ hd ps No _ h.pages.readNo ⟨_, _, _, rfl⟩).mono ?_
  rintro e w1 ⟨v1, rfl, rfl, hk1⟩
  rw [HF.out]
  clear c0 c1 c2 c3 c4 hfb
  have A := (AM.refl h).keep hk1
  have hw1 := hk1.size
  rw [if_neg (by simpa using HF.out)] at hc1
  obtain ⟨rfl, rfl⟩ : ps = ps' ∧ ms = ms' := by simpa using hc1
  have A' := A
  have hz2 := A'.ch.size
  clear A hk1
  generalize w1 = W at A' hz2 ⊢
  obtain ⟨c0, c1, c2, c3, c4, hfb⟩ := id A'.mc.box
  simp only at c0 c1 c4
  go_wp2_with fail
  refine (Insert0_any base _ _ W.heap.size x 3 _ (A'.mc.pages.alloc _) (by simp; omega) hpl (heap_alloc_new W _) (fun hq => by have := (A'.mc.pages.lt _ hq).2; omega)).mono ?_
  rintro e w3 ⟨v3, rfl, o3, k3, f3⟩
  obtain ⟨B3, A3⟩ := A'.ins2 o3 (((Chg.refl _ W).alloc _).trans k3) (fun q hq => (f3 q hq).imp id (fun h => by simp at h; omega))
  obtain ⟨a3, n3, q3, rfl⟩ := o3.shape
  clear c0 c1 c2 c3 c4 hfb
  obtain ⟨c0, c1, c2, c3, c4, hfb⟩ := id B3
  have fb2 := hfb 2
  go_wp2_with fail
  clear c0 c1 c2 c3 c4 hfb fb2
  have hsz : w3.heap.size = (w3.setCell ⟨b, 2, none⟩ (.slice a3 n3 q3)).heap.size := (by simp)
  generalize w3.setCell ⟨b, 2, none⟩ (.slice a3 n3 q3) = W3 at A3 hsz ⊢
  have HSZ := Lib.hid hsz
  clear hsz
  obtain ⟨c0, c1, c2, c3, c4, hfb⟩ := id A3.mc.box
  simp only at c0 c1 c4
  go_wp2_with fail
  rw [HSZ.out]
  refine (Insert0_any base _ _ W3.heap.size 1 3 _ (A3.mc.marks.alloc _) (by have := A3.ch.size; simp; omega) (hml.out H5.out) (heap_alloc_new W3 _) (fun hq => by have := (A3.mc.marks.lt _ hq).2; omega)).mono ?_
  rintro e w5 ⟨v5, rfl, o5, k5, f5⟩
  obtain ⟨B5, A5⟩ := A3.ins3 o5 (((Chg.refl _ W3).alloc _).trans k5) (fun q hq => (f5 q hq).imp id (fun h => by simp at h; omega))
  obtain ⟨a5, n5, q5, rfl⟩ := o5.shape
  clear c0 c1 c2 c3 c4 hfb
  obtain ⟨c0, c1, c2, c3, c4, hfb⟩ := id B5
  have fb3 := hfb 3
  go_wp2
  go_ret
  exact ⟨_, rfl, rfl, A5.after⟩

set_option maxRecDepth 100000 in
set_option maxHeartbeats 1000000 in
theorem step_in (base b : Nat) (p k : Int) (ps ms : List Int) (hd x : Int) (pv mv : Value) (w : World) (h : MC base w b ⟨p, k, ps, ms, hd⟩ pv mv) (hb : base ≤ w.heap.size) (hok : Ok ⟨p, k, ps, ms, hd⟩) (h6 : p ≠ 6) (h5 : p ≠ 5) (hat : atI ps x = -1) (hf : ((ps.length : Int) == k) = false) :
    Calls Tryz.prog 35 #[.pointer (some ⟨b, 0, none⟩), .int .i64 x] w (Ret fun v' w' => v' = .bool true ∧ After base w b pv mv (faultC ⟨p, k, ps, ms, hd⟩ x) w') := by
  obtain ⟨ps', ms', hc1, hl1⟩ : ∃ ps' ms', (if (ps.length : Int) = k then outC ⟨p, k, ps, ms, hd⟩ else ⟨p, k, ps, ms, hd⟩) = ⟨p, k, ps', ms', hd⟩ ∧ Hid (ps'.length ≤ ps.length ∧ ms'.length ≤ ms.length) := by
    rw [if_neg (by simpa using hf)]
    exact ⟨_, _, rfl, Lib.hid ⟨Nat.le_refl _, Nat.le_refl _⟩⟩
  have e : faultC ⟨p, k, ps, ms, hd⟩ x = ⟨p, k, x :: ps', ms', hd⟩ := by
    rw [faultC_out _ _ h6]
    simp only [hc1]
    simp [h5]
  rw [e]; clear e
  have hpl : ps'.length < 17592186044416 := by have := h.pages.len; have := hl1.out; have := hok.len; have := hok.size; simp only at *; omega
  have hml : Hid (p = 5 → ms'.length < 17592186044416) := Lib.hid (fun e => by have := hl1.out; have := hok.marks (.inl e); have := hok.len; have := hok.size; simp only at *; omega)
  have hb6 : (p == 6) = false := by simpa using h6
  have hb5 : (p == 5) = false := by simpa using h5
  have HL := Lib.hid (show True from by trivial)
  have HF := Lib.hid hf
  have HA := Lib.hid hat
  obtain ⟨a1, n1, q1, rfl⟩ := h.pages.shape
  obtain ⟨a2, n2, q2, rfl⟩ := h.marks.shape
  obtain ⟨c0, c1, c2, c3, c4, hfb⟩ := id h.box
  simp only at c0 c1 c4
  have H5 := Lib.hid h5
  clear hat hf h6 h5
  go_enter Tryz.func35, Tryz.ntmps35
  go_wp2_with fail
  refine (Index_any No _ ps x w h.pages.readNo).mono ?_
  rintro e w1 ⟨rfl, rfl⟩
  rw [HA.out]
  go_wp2_with fail
  refine (isFull_any p k _ _ hd ps No _ h.pages.readNo ⟨_, _, _, rfl⟩).mono ?_
  rintro e w1 ⟨v1, rfl, rfl, hk1⟩
  rw [HF.out]
  clear c0 c1 c2 c3 c4 hfb
  have A := (AM.refl h).keep hk1
  have hw1 := hk1.size
  rw [if_neg (by simpa using HF.out)] at hc1
  obtain ⟨rfl, rfl⟩ : ps = ps' ∧ ms = ms' := by simpa using hc1
  have A' := A
  have hz2 := A'.ch.size
  clear A hk1
  generalize w1 = W at A' hz2 ⊢
  obtain ⟨c0, c1, c2, c3, c4, hfb⟩ := id A'.mc.box
  simp only at c0 c1 c4
  go_wp2_with fail
  refine (Insert0_any base _ _ W.heap.size x 3 _ (A'.mc.pages.alloc _) (by simp; omega) hpl (heap_alloc_new W _) (fun hq => by have := (A'.mc.pages.lt _ hq).2; omega)).mono ?_
  rintro e w3 ⟨v3, rfl, o3, k3, f3⟩
  obtain ⟨B3, A3⟩ := A'.ins2 o3 (((Chg.refl _ W).alloc _).trans k3) (fun q hq => (f3 q hq).imp id (fun h => by simp at h; omega))
  obtain ⟨a3, n3, q3, rfl⟩ := o3.shape
  clear c0 c1 c2 c3 c4 hfb
  obtain ⟨c0, c1, c2, c3, c4, hfb⟩ := id B3
  have fb2 := hfb 2
  go_wp2_with fail
  go_ret
  exact ⟨_, rfl, rfl, A3.after⟩

theorem step_any (base b : Nat) (c : Ca) (x : Int) (pv mv : Value) (w : World) (h : MC base w b c pv mv) (hb : base ≤ w.heap.size) (hok : Ok c) :
    Calls Tryz.prog 35 #[.pointer (some ⟨b, 0, none⟩), .int .i64 x] w (Ret fun v' w' => v' = .bool (!hasB c.pages x) ∧ After base w b pv mv (stepC c x) w') := by
  rcases atI_spec c.pages x with ⟨hh, i, hi, hat⟩ | ⟨hh, hat⟩
  · exact step_hit base b c x pv mv w h hb hok i hi hat hh
  · by_cases h6 : c.pol = 6
    · exact step_turn base b c x pv mv w h hb hok h6 hat hh
    · have e : stepC c x = faultC c x := by unfold stepC; rw [hh]; rfl
      rw [e, hh]
      obtain ⟨p, k, ps, ms, hd⟩ := c
      simp only at h6 hat hh
      cases hf : ((ps.length : Int) == k)
      · by_cases h5 : p = 5
        · exact step_in5 base b p k ps ms hd x pv mv w h hb hok h6 h5 hat hf
        · exact step_in base b p k ps ms hd x pv mv w h hb hok h6 h5 hat hf
      · by_cases h5 : p = 5
        · exact step_out5 base b p k ps ms hd x pv mv w h hb hok h6 h5 hat hf
        · exact step_out base b p k ps ms hd x pv mv w h hb hok h6 h5 hat hf
end Go.Proofs.YtdgcohoneijleaaGreat
