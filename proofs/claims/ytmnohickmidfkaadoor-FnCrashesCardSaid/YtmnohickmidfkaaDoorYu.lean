import Derived.Test.YtmnohickmidfkaaDoorYt
/- records marked and looked at; LogRecords: both sides -/
namespace Go.Proofs.YtmnohickmidfkaaDoor
open Go.RowKit

def Marked (ms : List Value) (k n : Nat) : Prop := ∀ q, q < n → ms.getD (q * 2) undef = .string ⟨(markT (k + 2 * q)).toArray⟩ ∧ ms.getD (q * 2 + 1) undef = .string ⟨(markT (k + 2 * q + 1)).toArray⟩
theorem Marked.next {m : List Value} {k j : Nat} (h : Marked m k j) (hl : j * 2 + 1 < m.length) : Marked ((m.set (j * 2) (.string ⟨(markT (k + 2 * j)).toArray⟩)).set (j * 2 + 1) (.string ⟨(markT (k + 2 * j + 1)).toArray⟩)) k (j + 1) := by
  intro q hq
  by_cases e : q = j
  · subst e
    constructor
    · rw [List.getD_eq_getElem?_getD, List.getElem?_set_ne (by omega), List.getElem?_set_self (by omega)]; rfl
    · rw [List.getD_eq_getElem?_getD, List.getElem?_set_self (by rw [List.length_set]; omega)]; rfl
  · obtain ⟨h1, h2⟩ := h q (by omega)
    rw [List.getD_eq_getElem?_getD] at h1 h2
    constructor
    · rw [List.getD_eq_getElem?_getD, List.getElem?_set_ne (by omega), List.getElem?_set_ne (by omega)]; exact h1
    · rw [List.getD_eq_getElem?_getD, List.getElem?_set_ne (by omega), List.getElem?_set_ne (by omega)]; exact h2
set_option maxRecDepth 100000 in
set_option maxHeartbeats 2000000 in
theorem markRecS_any (base : Nat) (v : Value) (n : Nat) (cs : List Value) (k : Nat) (w : World) (h : OS 43 2 base w v n cs) (hn : n ≤ 60) (hk : 1 ≤ k ∧ k ≤ 1000) :
    Calls Tryd.prog 29 #[v, .int .i64 k] w fun e w' => e = .returned (.int .i64 ((k + 2 * n : Nat) : Int)) ∧ ∃ ms, OS 43 2 base w' v n ms ∧ Marked ms k n ∧ Chg (own v) w w' := by
  have hcl := h.cl
  obtain ⟨a, cap, rfl, hcap, hmax, _, hvw⟩ := h.view
  have HV := Lib.hid hvw
  clear hvw
  go_enter Tryd.func29, Tryd.ntmps29
  go_wp2_with fail
  go_loopw [1, 5] (fun s i wr => ∃ (j : Nat) (m : List Value), j ≤ n ∧ i = .int .i64 j ∧ s = .int .i64 ((k + 2 * j : Nat) : Int) ∧ m.length = n * 2 ∧ Hid (Marked m k j) ∧ OS 43 2 base wr (.slice a n cap) n m ∧ Chg (own (.slice a n cap)) w wr) (fun _ i _ => n - (intOf i).toNat)
  case atStart => exact ⟨0, cs, Nat.zero_le _, rfl, rfl, hcl, Lib.hid (fun q hq => absurd hq (Nat.not_lt_zero _)), h, Chg.refl _ w⟩
  case round =>
    obtain ⟨j, m, hj, rfl, rfl, hm, HM, ho, hch⟩ := hrel
    by_cases hlt : j < n
    · obtain ⟨g, rfl, hg1, hg2, _, _⟩ := HV.out (by omega)
      obtain ⟨K, hK⟩ : ∃ K, k + 2 * j = K := ⟨_, rfl⟩
      have HML := Lib.hid hm
      have HN := HM.out.next (by rw [hm]; omega)
      have HKE := Lib.hid hK
      have hK1 : 1 ≤ K := by omega
      have hK2 : K ≤ 2000 := by omega
      rw [hK] at HN ⊢
      have HN := Lib.hid HN
      have q1 := Lib.hid (fun W => markText_any K W (by omega) (by omega))
      have q2 : Hid (∀ W, Calls Tryd.prog 54 #[.int .i64 ((K : Int) + 1)] W fun e w' => e = .returned (.string ⟨(markT (K + 1)).toArray⟩) ∧ Chg No W w') := Lib.hid (fun W => by
        have := markText_any (K + 1) W (by omega) (by omega)
        push_cast at this
        exact this)
      obtain ⟨t1, ht1⟩ : ∃ t, markT K = t := ⟨_, rfl⟩
      obtain ⟨t2, ht2⟩ : ∃ t, markT (K + 1) = t := ⟨_, rfl⟩
      rw [ht1, ht2] at HN
      rw [ht1] at q1
      rw [ht2] at q2
      have hj0 : (0 : Int) ≤ (j : Int) := Int.natCast_nonneg _
      have hj1 : (j : Int) < (n : Int) := by omega
      have hw1 : IntKind.i64.wrap ((j : Int) + 1) = (j : Int) + 1 := IntWalk.i64_in _ (by omega)
      have hw2 : IntKind.i64.wrap ((K : Int) + 1) = (K : Int) + 1 := IntWalk.i64_in _ (by omega)
      have hw3 : IntKind.i64.wrap ((K : Int) + 1 + 1) = (K : Int) + 1 + 1 := IntWalk.i64_in _ (by omega)
      clear hm hK ht1 ht2
      go_wp2_with (go_at_call 54; first | (with_reducible refine (q1.out _).mono ?_; rintro e w1 ⟨rfl, hk1⟩; have ho1 := ho.keep hk1; obtain ⟨e0, f0, _⟩ := ho1.at; have c0 := e0 (j * 2) (by rw [HML.out]; omega); have fz0 := f0 (j * 2); obtain ⟨o1, k1⟩ := ho1.store (j * 2) (.string ⟨t1.toArray⟩); clear e0 f0) | (with_reducible refine (q2.out _).mono ?_; rintro e w2 ⟨rfl, hk2⟩; have ho2 := o1.keep hk2; obtain ⟨e1, f1, _⟩ := ho2.at; have c1 := e1 (j * 2 + 1) (by rw [List.length_set, HML.out]; omega); have fz1 := f1 (j * 2 + 1); obtain ⟨o2, k2⟩ := ho2.store (j * 2 + 1) (.string ⟨t2.toArray⟩); clear e1 f1))
      refine ⟨⟨j + 1, _, by omega, by go_num, ?_, ?_, HN, o2, (((hch.step hk1 (fun _ e _ => e.elim)).step k1 (fun q hq _ => own_slice.2 hq)).step hk2 (fun _ e _ => e.elim)).step k2 (fun q hq _ => own_slice.2 hq)⟩, ?_⟩
      · have := HKE.out
        rw [show k + 2 * (j + 1) = K + 1 + 1 by omega]
        go_num
      · rw [List.length_set, List.length_set]; exact HML.out
      · simp [intOf]; omega
    · have hj' : j = n := by omega
      subst hj'
      go_wp2_with fail
      go_ret
      exact ⟨rfl, m, ho, HM.out, hch⟩

set_option maxRecDepth 100000 in
set_option maxHeartbeats 2000000 in
theorem heldRecS_any (v : Value) (n : Nat) (ms : List Value) (k : Nat) (w : World) (h : RF No w v 2 n ms) (hM : Marked ms k n) (hn : n ≤ 60) (hk : 1 ≤ k ∧ k ≤ 1000) :
    Calls Tryd.prog 30 #[v, .int .i64 k] w fun e w' => e = .returned (.int .i64 ((k + 2 * n : Nat) : Int)) ∧ Chg No w w' := by
  obtain ⟨a, cap, rfl, hcap, hmax, hml, _, hcell⟩ := id h
  have HC := Lib.hid hcell
  have HML := Lib.hid hml
  have HM := Lib.hid hM
  clear hcell hml hM
  go_enter Tryd.func30, Tryd.ntmps30
  go_wp2_with fail
  go_loopw [1, 5] (fun s i wr => ∃ j : Nat, j ≤ n ∧ i = .int .i64 j ∧ s = .int .i64 ((k + 2 * j : Nat) : Int) ∧ Chg No w wr) (fun _ i _ => n - (intOf i).toNat)
  case atStart => exact ⟨0, Nat.zero_le _, rfl, rfl, Chg.refl No w⟩
  case round =>
    obtain ⟨j, hj, rfl, rfl, hch⟩ := hrel
    by_cases hlt : j < n
    · obtain ⟨b, off, rfl, _, hb, hcell⟩ := HC.out (by omega)
      obtain ⟨K, hK⟩ : ∃ K, k + 2 * j = K := ⟨_, rfl⟩
      have HKE := Lib.hid hK
      have hK1 : 1 ≤ K := by omega
      have hK2 : K ≤ 2000 := by omega
      obtain ⟨g0, g1⟩ := HM.out j hlt
      have f0 := hcell (j * 2) (by rw [HML.out]; omega)
      have f1 := hcell (j * 2 + 1) (by rw [HML.out]; omega)
      rw [hK] at g0 g1 ⊢
      have q1 := Lib.hid (fun W => markText_any K W (by omega) (by omega))
      have q2 : Hid (∀ W, Calls Tryd.prog 54 #[.int .i64 ((K : Int) + 1)] W fun e w' => e = .returned (.string ⟨(markT (K + 1)).toArray⟩) ∧ Chg No W w') := Lib.hid (fun W => by
        have := markText_any (K + 1) W (by omega) (by omega)
        push_cast at this
        exact this)
      obtain ⟨t1, ht1⟩ : ∃ t, markT K = t := ⟨_, rfl⟩
      obtain ⟨t2, ht2⟩ : ∃ t, markT (K + 1) = t := ⟨_, rfl⟩
      rw [g0, ht1] at f0
      rw [g1, ht2, ← Nat.add_assoc] at f1
      rw [ht1] at q1
      rw [ht2] at q2
      have hj0 : (0 : Int) ≤ (j : Int) := Int.natCast_nonneg _
      have hj1 : (j : Int) < (n : Int) := by omega
      have hw1 : IntKind.i64.wrap ((j : Int) + 1) = (j : Int) + 1 := IntWalk.i64_in _ (by omega)
      have hw2 : IntKind.i64.wrap ((K : Int) + 1) = (K : Int) + 1 := IntWalk.i64_in _ (by omega)
      have hw3 : IntKind.i64.wrap ((K : Int) + 1 + 1) = (K : Int) + 1 + 1 := IntWalk.i64_in _ (by omega)
      obtain ⟨C, hC1, hC2⟩ : ∃ C : World → Prop, (∀ W, C W → Chg No w W) ∧ (∀ W, Chg No w W → C W) := ⟨_, fun _ h => h, fun _ h => h⟩
      have HCELL : Hid (∀ W, C W → W.cell? ⟨b, off + j * 2, none⟩ = some (.string ⟨t1.toArray⟩) ∧ W.cell? ⟨b, off + j * 2 + 1, none⟩ = some (.string ⟨t2.toArray⟩)) := Lib.hid (fun W hW =>
        ⟨((hC1 W hW).cellD b _ hb (fun e => e)).trans f0, ((hC1 W hW).cellD b _ hb (fun e => e)).trans f1⟩)
      have HX := Lib.hid hC1
      have HI := Lib.hid hC2
      have hC0 := hC2 _ hch.drew
      clear hC1 hC2 f0 f1 hcell g0 g1 hK ht1 ht2
      go_wp2_with fail
      refine wp_region_X C (by kernel_rfl) (by kernel_rfl) hC0 ?_
      clear hC0
      refine wpX_val (.slice (some ⟨b, off, none⟩) n cap) rfl (by intro W hW; obtain ⟨d0, d1⟩ := HCELL.out W hW; go_simp) ?_
      simp only [Act.put, List.setIfInBounds_toArray, List.set_cons_zero, List.set_cons_succ]
      refine wpX_val (.int .i64 j) rfl (by intro W hW; obtain ⟨d0, d1⟩ := HCELL.out W hW; go_simp) ?_
      simp only [Act.put, List.setIfInBounds_toArray, List.set_cons_zero, List.set_cons_succ]
      refine wpX_val (.pointer (some ⟨b, off + j * 2, none⟩)) rfl (by intro W hW; obtain ⟨d0, d1⟩ := HCELL.out W hW; go_simp) ?_
      simp only [Act.put, List.setIfInBounds_toArray, List.set_cons_zero, List.set_cons_succ]
      refine wpX_val (.pointer (some ⟨b, off + j * 2, none⟩)) rfl (by intro W hW; obtain ⟨d0, d1⟩ := HCELL.out W hW; go_simp) ?_
      simp only [Act.put, List.setIfInBounds_toArray, List.set_cons_zero, List.set_cons_succ]
      refine wpX_val (.string ⟨t1.toArray⟩) rfl (by intro W hW; obtain ⟨d0, d1⟩ := HCELL.out W hW; go_simp) ?_
      simp only [Act.put, List.setIfInBounds_toArray, List.set_cons_zero, List.set_cons_succ]
      refine wpX_val (.int .i64 K) rfl (by intro W hW; obtain ⟨d0, d1⟩ := HCELL.out W hW; go_simp) ?_
      simp only [Act.put, List.setIfInBounds_toArray, List.set_cons_zero, List.set_cons_succ]
      refine wpX_call (.string ⟨t1.toArray⟩) (f := 54) (args := #[.int .i64 K]) rfl (by intro W hW; go_simp) (fun W hW => (q1.out W).mono (by rintro e w' ⟨rfl, hk⟩; exact ⟨rfl, HI.out _ ((HX.out W hW).keep hk)⟩)) ?_
      simp only [Act.put, List.setIfInBounds_toArray, List.set_cons_zero, List.set_cons_succ]
      refine wpX_val (.bool false) rfl (by intro W hW; obtain ⟨d0, d1⟩ := HCELL.out W hW; go_simp) ?_
      simp only [Act.put, List.setIfInBounds_toArray, List.set_cons_zero, List.set_cons_succ]
      refine wpX_nil (fun W hW => ?_)
      have hC0 := HI.out _ (HX.out W hW).drew
      go_wp2_with fail
      refine wp_region_X C (by kernel_rfl) (by kernel_rfl) hC0 ?_
      clear hC0
      refine wpX_val (.slice (some ⟨b, off, none⟩) n cap) rfl (by intro W hW; obtain ⟨d0, d1⟩ := HCELL.out W hW; go_simp) ?_
      simp only [Act.put, List.setIfInBounds_toArray, List.set_cons_zero, List.set_cons_succ]
      refine wpX_val (.int .i64 j) rfl (by intro W hW; obtain ⟨d0, d1⟩ := HCELL.out W hW; go_simp) ?_
      simp only [Act.put, List.setIfInBounds_toArray, List.set_cons_zero, List.set_cons_succ]
      refine wpX_val (.pointer (some ⟨b, off + j * 2, none⟩)) rfl (by intro W hW; obtain ⟨d0, d1⟩ := HCELL.out W hW; go_simp) ?_
      simp only [Act.put, List.setIfInBounds_toArray, List.set_cons_zero, List.set_cons_succ]
      refine wpX_val (.pointer (some ⟨b, off + j * 2 + 1, none⟩)) rfl (by intro W hW; obtain ⟨d0, d1⟩ := HCELL.out W hW; go_simp) ?_
      simp only [Act.put, List.setIfInBounds_toArray, List.set_cons_zero, List.set_cons_succ]
      refine wpX_val (.string ⟨t2.toArray⟩) rfl (by intro W hW; obtain ⟨d0, d1⟩ := HCELL.out W hW; go_simp) ?_
      simp only [Act.put, List.setIfInBounds_toArray, List.set_cons_zero, List.set_cons_succ]
      refine wpX_val (.int .i64 ((K : Int) + 1)) rfl (by intro W hW; obtain ⟨d0, d1⟩ := HCELL.out W hW; go_simp) ?_
      simp only [Act.put, List.setIfInBounds_toArray, List.set_cons_zero, List.set_cons_succ]
      refine wpX_call (.string ⟨t2.toArray⟩) (f := 54) (args := #[.int .i64 ((K : Int) + 1)]) rfl (by intro W hW; go_simp) (fun W hW => (q2.out W).mono (by rintro e w' ⟨rfl, hk⟩; exact ⟨rfl, HI.out _ ((HX.out W hW).keep hk)⟩)) ?_
      simp only [Act.put, List.setIfInBounds_toArray, List.set_cons_zero, List.set_cons_succ]
      refine wpX_val (.bool false) rfl (by intro W hW; obtain ⟨d0, d1⟩ := HCELL.out W hW; go_simp) ?_
      simp only [Act.put, List.setIfInBounds_toArray, List.set_cons_zero, List.set_cons_succ]
      refine wpX_nil (fun W' hW' => ?_)
      have g2 := HX.out W' hW'
      go_wp2_with fail
      go_round
      case rel =>
        refine ⟨j + 1, by omega, by go_num, ?_, g2⟩
        have := HKE.out
        rw [show k + 2 * (j + 1) = K + 1 + 1 by omega]
        go_num
      case measure => simp [intOf]; omega
    · have hjl : j = n := by omega
      subst hjl
      go_wp2_with fail
      go_ret
      exact ⟨rfl, hch⟩

/-- the records of a log, none if it is not valid -/
def recL (d p : List UInt8) (n : Int) : List (List UInt8 × List UInt8 × Nat) := if validB d p n then openB 60 0 (d ++ p) else []
theorem recL_len (d p : List UInt8) (n : Int) : (recL d p n).length ≤ 60 := by
  unfold recL
  split
  · exact openB_len 60 0 _
  · exact Nat.zero_le _
theorem implRecords_any (d p : List UInt8) (n : Int) (w : World) (hd : d.length ≤ 1048576) (hp : p.length ≤ 1048576) (hw : Lay w) :
    Calls Tryd.prog 27 #[lv d p n] w fun e w' => ∃ v, e = .returned (.tuple #[v, .bool (validB d p n)]) ∧ OS 43 2 w.heap.size w' v (recL d p n).length (recC (recL d p n)) ∧ Chg No w w' := by
  have k0 := (Chg.refl No w).alloc (.cells #[.string ⟨d.toArray⟩, .string ⟨p.toArray⟩, .int .i64 n] 23)
  obtain ⟨c0, c1, c2, fr⟩ := BoxL.new w (.string ⟨d.toArray⟩) (.string ⟨p.toArray⟩) (.int .i64 n) 23
  have HL := Lib.hid (hw.keep k0)
  have q1 : Hid (∀ W, Lay W → Calls Tryd.prog 47 #[lv d p n] W fun e w' => ∃ v, e = .returned (.tuple #[v, .bool (validB d p n)]) ∧ OS 43 2 W.heap.size w' v (recL d p n).length (recC (recL d p n)) ∧ Chg No W w') := Lib.hid (fun W hW => (recordsOf_any d p n W hd hp hW).mono (fun e w' ⟨v, h1, h2, h3, h4⟩ => ⟨v, h1, by
    unfold recL
    cases hv : validB d p n with
    | true => exact h2 hv
    | false => rw [h3 hv]; exact OS.nil _ _ _ _, h4⟩))
  unfold lv at q1 ⊢
  clear hw
  go_enter Tryd.func27, Tryd.ntmps27
  go_wp2_with (go_at_call 47; refine (q1.out _ HL.out).mono ?_; rintro e w1 ⟨v, rfl, o1, hk1⟩)
  go_ret2
  exact ⟨v, rfl, o1.weak (by rw [World.size_alloc]; omega), k0.trans hk1⟩

theorem rec_end {d p : List UInt8} {n : Int} {b : Bool} {w W : World} {v : Value} (hv : validB d p n = b) (ho : OS 43 2 w.heap.size W v (recL d p n).length (recC (recL d p n))) (hch : Chg No w W) :
    ∃ v', Ending.returned (.tuple #[v, .bool b]) = .returned (.tuple #[v', .bool (validB d p n)]) ∧ OS 43 2 w.heap.size W v' (recL d p n).length (recC (recL d p n)) ∧ Chg No w W := by
  rw [hv]
  exact ⟨v, rfl, ho, hch⟩
set_option maxRecDepth 100000 in
theorem specRecords_any (d p : List UInt8) (n : Int) (w : World) (hd : d.length ≤ 1048576) (hp : p.length ≤ 1048576) :
    Calls Tryd.prog 26 #[lv d p n] w fun e w' => ∃ v, e = .returned (.tuple #[v, .bool (validB d p n)]) ∧ OS 43 2 w.heap.size w' v (recL d p n).length (recC (recL d p n)) ∧ Chg No w w' := by
  have k0 := (Chg.refl No w).alloc (.cells #[.string ⟨d.toArray⟩, .string ⟨p.toArray⟩, .int .i64 n] 23)
  have bx := BoxL.new w (.string ⟨d.toArray⟩) (.string ⟨p.toArray⟩) (.int .i64 n) 23
  have HBOX : Hid (∀ W, Chg No (w.alloc (.cells #[.string ⟨d.toArray⟩, .string ⟨p.toArray⟩, .int .i64 n] 23)) W → BoxL W w.heap.size (.string ⟨d.toArray⟩) (.string ⟨p.toArray⟩) (.int .i64 n)) := Lib.hid (fun W hW => bx.keep hW)
  obtain ⟨c0, c1, c2, fr⟩ := bx
  have q1 := Lib.hid (fun W => l12Valid_any d p n W hd hp)
  have hs0 := k0.size
  cases hv : validB d p n with
  | true =>
    have hlen : d.length + p.length ≤ 30000 := by
      unfold validB at hv
      rw [Bool.and_eq_true, decide_eq_true_eq] at hv
      exact hv.1
    obtain ⟨s, hs⟩ : ∃ s, s = d ++ p := ⟨_, rfl⟩
    have a1 := cat_to (P := Tryd.prog) hs (by rw [hs, List.length_append]; omega)
    have hsl : s.length ≤ 30000 := by rw [hs, List.length_append]; omega
    have HR : Hid (recL d p n = openB 60 0 s) := Lib.hid (by rw [recL, hv, hs]; rfl)
    have q2 := Lib.hid (fun W => l12Open_any s W (by omega))
    rw [hv] at q1
    have HV := Lib.hid hv
    obtain ⟨m, hm⟩ : ∃ m, lenB (openB 60 0 s) = m := ⟨_, rfl⟩
    rw [hm, ← HR.out] at q2
    rw [← hv]
    unfold lv at q1 ⊢
    clear hv hs hm hsl hlen
    go_enter Tryd.func26, Tryd.ntmps26
    go_wp2_with (first | (go_at_call 46; refine (q1.out _).mono ?_; rintro e w1 ⟨rfl, hk1⟩; obtain ⟨c0, c1, c2, fr⟩ := HBOX.out w1 hk1) | (go_at_call 44; refine (q2.out _).mono ?_; rintro e w2 ⟨v, rfl, o2, hk2⟩))
    go_ret2
    exact rec_end HV.out (o2.weak (by have := hk1.size; omega)) (k0.trans (hk1.trans hk2))
  | false =>
    have HR : Hid (recL d p n = []) := Lib.hid (by rw [recL, hv]; rfl)
    rw [hv] at q1
    have HV := Lib.hid hv
    rw [← hv]
    unfold lv at q1 ⊢
    clear hv
    go_enter Tryd.func26, Tryd.ntmps26
    go_wp2_with (go_at_call 46; refine (q1.out _).mono ?_; rintro e w1 ⟨rfl, hk1⟩; obtain ⟨c0, c1, c2, fr⟩ := HBOX.out w1 hk1)
    go_ret2
    refine rec_end (v := .slice (some ⟨w1.heap.size, 0, none⟩) 0 0) HV.out ?_ ((k0.trans hk1).alloc _)
    rw [HR.out]
    exact OS.zero (by have := hk1.size; omega)
end Go.Proofs.YtmnohickmidfkaaDoor
