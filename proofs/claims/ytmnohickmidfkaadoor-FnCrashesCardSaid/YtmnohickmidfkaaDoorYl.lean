import Derived.Test.YtmnohickmidfkaaDoorYk
/- logs: which are valid -/
namespace Go.Proofs.YtmnohickmidfkaaDoor
open Go.RowKit

/-- a log in a box -/
structure BoxL (w : World) (b : Nat) (v0 v1 v2 : Value) : Prop where
  c0 : w.cell? ⟨b, 0, none⟩ = some v0
  c1 : w.cell? ⟨b, 1, none⟩ = some v1
  c2 : w.cell? ⟨b, 2, none⟩ = some v2
  fr : ∀ o, w.frozen? ⟨b, o, none⟩ = false
theorem BoxL.lt {w : World} {b : Nat} {v0 v1 v2 : Value} (h : BoxL w b v0 v1 v2) : b < w.heap.size := World.block_lt_of_cell? w _ h.c0
theorem BoxL.step {S : Nat → Prop} {w w' : World} {b : Nat} {v0 v1 v2 : Value} (h : BoxL w b v0 v1 v2) (hc : Chg S w w') (hS : ¬ S b) : BoxL w' b v0 v1 v2 := by
  have hb := h.lt
  exact ⟨(hc.cellD b 0 hb hS).trans h.c0, (hc.cellD b 1 hb hS).trans h.c1, (hc.cellD b 2 hb hS).trans h.c2, fun o => (World.frozen?_of_block (hc.block b hb hS)).trans (h.fr o)⟩
theorem BoxL.keep {w w' : World} {b : Nat} {v0 v1 v2 : Value} (h : BoxL w b v0 v1 v2) (hc : Chg No w w') : BoxL w' b v0 v1 v2 := h.step hc (fun e => e)
theorem BoxL.new (w : World) (v0 v1 v2 : Value) (t : TypeId) : BoxL (w.alloc (.cells #[v0, v1, v2] t)) w.heap.size v0 v1 v2 := by
  refine ⟨?_, ?_, ?_, fun o => World.frozen?_alloc_new _ _ _ _⟩ <;> (rw [World.cell?_alloc_new]; rfl)
theorem BoxL.put {w : World} {b : Nat} {v0 v1 v2 : Value} (h : BoxL w b v0 v1 v2) (x0 x1 x2 : Value) : BoxL (((w.setCell ⟨b, 0, none⟩ x0).setCell ⟨b, 1, none⟩ x1).setCell ⟨b, 2, none⟩ x2) b x0 x1 x2 := by
  obtain ⟨c0, c1, c2, fr⟩ := h
  refine ⟨?_, ?_, ?_, fun o => ?_⟩
  · go_simp
  · go_simp
  · go_simp
  · go_simp
theorem BoxL.put01 {w : World} {b : Nat} {v0 v1 v2 : Value} (h : BoxL w b v0 v1 v2) (x0 x1 : Value) : (w.setCell ⟨b, 0, none⟩ x0).cell? ⟨b, 0, none⟩ = some x0 ∧ ((w.setCell ⟨b, 0, none⟩ x0).setCell ⟨b, 1, none⟩ x1).cell? ⟨b, 1, none⟩ = some x1 := by
  obtain ⟨c0, c1, c2, fr⟩ := h
  refine ⟨?_, ?_⟩
  · go_simp
  · go_simp
theorem Chg.put3 {S : Nat → Prop} {w0 wr : World} (h : Chg S w0 wr) {b : Nat} (hb : b < w0.heap.size → S b) (x0 x1 x2 : Value) : Chg S w0 (((wr.setCell ⟨b, 0, none⟩ x0).setCell ⟨b, 1, none⟩ x1).setCell ⟨b, 2, none⟩ x2) :=
  ((h.setCell (p := ⟨b, 0, none⟩) hb x0).setCell (p := ⟨b, 1, none⟩) hb x1).setCell (p := ⟨b, 2, none⟩) hb x2
/-- a log by value -/
def lv (d p : List UInt8) (n : Int) : Value := .agg #[.string ⟨d.toArray⟩, .string ⟨p.toArray⟩, .int .i64 n]
/-- which logs are valid -/
def validB (d p : List UInt8) (n : Int) : Bool :=
  decide (d.length + p.length ≤ 30000) && (decide (lenB (openB 60 0 (d ++ p)) = d.length + p.length) && (decide (lenB (openB 60 0 d) = d.length) && decide (((openB 60 0 (d ++ p)).length : Int) = n)))

set_option maxRecDepth 100000 in
set_option maxHeartbeats 2000000 in
theorem l12Valid_any (d p : List UInt8) (n : Int) (w : World) (hd : d.length ≤ 1048576) (hp : p.length ≤ 1048576) :
    Calls Tryd.prog 46 #[lv d p n] w fun e w' => e = .returned (.bool (validB d p n)) ∧ Chg No w w' := by
  have k0 := (Chg.refl No w).alloc (.cells #[.string ⟨d.toArray⟩, .string ⟨p.toArray⟩, .int .i64 n] 23)
  have bx := BoxL.new w (.string ⟨d.toArray⟩) (.string ⟨p.toArray⟩) (.int .i64 n) 23
  have HBOX : Hid (∀ W, Chg No (w.alloc (.cells #[.string ⟨d.toArray⟩, .string ⟨p.toArray⟩, .int .i64 n] 23)) W → BoxL W w.heap.size (.string ⟨d.toArray⟩) (.string ⟨p.toArray⟩) (.int .i64 n)) := Lib.hid (fun W hW => bx.keep hW)
  obtain ⟨c0, c1, c2, fr⟩ := bx
  unfold lv
  by_cases hlen : d.length + p.length ≤ 30000
  · have HV : Hid (validB d p n = (decide (lenB (openB 60 0 (d ++ p)) = d.length + p.length) && (decide (lenB (openB 60 0 d) = d.length) && decide (((openB 60 0 (d ++ p)).length : Int) = n)))) := Lib.hid (by simp [validB, hlen])
    obtain ⟨s, hs⟩ : ∃ s, s = d ++ p := ⟨_, rfl⟩
    have a1 := cat_to (P := Tryd.prog) hs (by rw [hs, List.length_append]; omega)
    have hsl : s.length = d.length + p.length := by rw [hs, List.length_append]
    rw [← hs] at HV
    have q1 := Lib.hid (fun W => l12Open_any s W (by omega))
    have q2 := Lib.hid (fun W => l12Open_any d W (by omega))
    have HL := Lib.hid hsl
    have hl2 : s.length ≤ 1048576 := by omega
    obtain ⟨m1, hm1⟩ : ∃ m, lenB (openB 60 0 s) = m := ⟨_, rfl⟩
    obtain ⟨m2, hm2⟩ : ∃ m, lenB (openB 60 0 d) = m := ⟨_, rfl⟩
    obtain ⟨m3, hm3⟩ : ∃ m, (openB 60 0 s).length = m := ⟨_, rfl⟩
    have hb1 : m1 ≤ 30000 := by have := lenB_le 60 0 s; omega
    have hb2 : m2 ≤ 30000 := by have := lenB_le 60 0 d; omega
    have hb3 : m3 ≤ 60 := by have := openB_len 60 0 s; omega
    rw [hm1, hm2, hm3] at HV
    rw [hm1, hm3] at q1
    rw [hm2] at q2
    clear hs hm1 hm2 hm3 hsl
    go_enter Tryd.func46, Tryd.ntmps46
    go_wp2_with (go_at_call 44; first | (with_reducible refine (q1.out _).mono ?_; rintro e w1 ⟨v1, rfl, o1, hk1⟩; obtain ⟨a1', q1', rfl, _⟩ := o1.view; obtain ⟨c0, c1, c2, fr⟩ := HBOX.out w1 hk1) | (with_reducible refine (q2.out _).mono ?_; rintro e w2 ⟨v2, rfl, o2, hk2⟩; obtain ⟨a2', q2', rfl, _⟩ := o2.view; obtain ⟨c0, c1, c2, fr⟩ := HBOX.out w2 (hk1.trans hk2)))
    all_goals go_ret
    all_goals
      refine ⟨ret_bool ?_, k0.trans (hk1.trans hk2)⟩
      rw [HV.out, Bool.eq_iff_iff]
      simp only [Bool.and_eq_true, beq_iff_eq, decide_eq_true_eq, Bool.false_eq_true]
      first | omega | exact ⟨fun h => h.elim, fun h => by omega⟩
  · have HV : Hid (validB d p n = false) := Lib.hid (by simp [validB, hlen])
    go_enter Tryd.func46, Tryd.ntmps46
    go_wp2_with fail
    go_ret
    exact ⟨ret_bool HV.out.symm, k0⟩

set_option maxRecDepth 100000 in
theorem specValid_any (d p : List UInt8) (n : Int) (w : World) (hd : d.length ≤ 1048576) (hp : p.length ≤ 1048576) :
    Calls Tryd.prog 15 #[lv d p n] w fun e w' => e = .returned (.bool (validB d p n)) ∧ Chg No w w' := by
  have k0 := (Chg.refl No w).alloc (.cells #[.string ⟨d.toArray⟩, .string ⟨p.toArray⟩, .int .i64 n] 23)
  obtain ⟨c0, c1, c2, fr⟩ := BoxL.new w (.string ⟨d.toArray⟩) (.string ⟨p.toArray⟩) (.int .i64 n) 23
  have q1 := Lib.hid (fun W => l12Valid_any d p n W hd hp)
  unfold lv at q1 ⊢
  go_enter Tryd.func15, Tryd.ntmps15
  go_wp2_with (go_at_call 46; refine (q1.out _).mono ?_; rintro e w1 ⟨rfl, hk1⟩)
  go_ret
  exact ⟨rfl, k0.trans hk1⟩

/-- the places behind the records, with the beginning -/
theorem contains_ends (d p : List UInt8) : ([(0 : Int)] ++ endsI (openB 60 0 (d ++ p))).contains (d.length : Int) = decide (lenB (openB 60 0 d) = d.length) := by
  rw [Bool.eq_iff_iff, decide_eq_true_eq, open_part 60 0 d p, List.contains_iff_mem, List.mem_append, List.mem_singleton]
  unfold endsI
  rw [List.mem_map]
  constructor
  · rintro (h | ⟨x, hx, h⟩)
    · exact .inl (by omega)
    · exact .inr (by rw [← Int.ofNat.inj h]; exact hx)
  · rintro (h | h)
    · exact .inl (by omega)
    · exact .inr ⟨_, h, rfl⟩
theorem last_ends (D : List (List UInt8 × List UInt8 × Nat)) : ([(0 : Int)] ++ endsI D).getD D.length 0 = (lenB D : Int) := by
  rcases List.eq_nil_or_concat D with rfl | ⟨D', x, rfl⟩
  · rfl
  · rw [List.concat_eq_append, endsI_snoc, lenB_snoc, List.length_append, List.length_singleton, ← List.append_assoc]
    have : ([(0 : Int)] ++ endsI D').length = D'.length + 1 := by simp [endsI_len]
    rw [← this, List.getD_eq_getElem?_getD, List.getElem?_append_right (Nat.le_refl _), Nat.sub_self]
    rfl
theorem valid_no {d p : List UInt8} {n : Int} {w W : World} {v : Value} (hv : validB d p n = false) (hch : Chg No w W) (e : v = .slice none 0 0 := by rfl) :
    ∃ v', Ending.returned (.tuple #[v, .bool false]) = .returned (.tuple #[v', .bool (validB d p n)]) ∧
      (validB d p n = true → OS 43 2 w.heap.size W v' (openB 60 0 (d ++ p)).length (recC (openB 60 0 (d ++ p)))) ∧ (validB d p n = false → v' = .slice none 0 0) ∧ Chg No w W := by
  rw [hv]
  exact ⟨v, rfl, fun h => (by cases h), fun _ => e, hch⟩
set_option maxRecDepth 100000 in
set_option maxHeartbeats 2000000 in
theorem recordsOf_any (d p : List UInt8) (n : Int) (w : World) (hd : d.length ≤ 1048576) (hp : p.length ≤ 1048576) (hw : Lay w) :
    Calls Tryd.prog 47 #[lv d p n] w fun e w' => ∃ v, e = .returned (.tuple #[v, .bool (validB d p n)]) ∧
      (validB d p n = true → OS 43 2 w.heap.size w' v (openB 60 0 (d ++ p)).length (recC (openB 60 0 (d ++ p)))) ∧ (validB d p n = false → v = .slice none 0 0) ∧ Chg No w w' := by
  have k0 := (Chg.refl No w).alloc (.cells #[.string ⟨d.toArray⟩, .string ⟨p.toArray⟩, .int .i64 n] 23)
  have bx := BoxL.new w (.string ⟨d.toArray⟩) (.string ⟨p.toArray⟩) (.int .i64 n) 23
  have HBOX : Hid (∀ W, Chg No (w.alloc (.cells #[.string ⟨d.toArray⟩, .string ⟨p.toArray⟩, .int .i64 n] 23)) W → BoxL W w.heap.size (.string ⟨d.toArray⟩) (.string ⟨p.toArray⟩) (.int .i64 n)) := Lib.hid (fun W hW => bx.keep hW)
  have HL0 := Lib.hid (hw.keep k0)
  obtain ⟨c0, c1, c2, fr⟩ := bx
  unfold lv
  by_cases hlen : d.length + p.length ≤ 30000
  · have HV : Hid (validB d p n = (decide (lenB (openB 60 0 (d ++ p)) = d.length + p.length) && (decide (lenB (openB 60 0 d) = d.length) && decide (((openB 60 0 (d ++ p)).length : Int) = n)))) := Lib.hid (by simp [validB, hlen])
    have hce := contains_ends d p
    obtain ⟨s, hs⟩ : ∃ s, s = d ++ p := ⟨_, rfl⟩
    have a1 := cat_to (P := Tryd.prog) hs (by rw [hs, List.length_append]; omega)
    have hsl : s.length = d.length + p.length := by rw [hs, List.length_append]
    rw [← hs] at HV hce ⊢
    have q1 := Lib.hid (fun W hW => readRecords_any s W (by omega) hW)
    have hl2 : s.length ≤ 30000 := by omega
    have hla := last_ends (openB 60 0 s)
    obtain ⟨D, hD⟩ : ∃ D, openB 60 0 s = D := ⟨_, rfl⟩
    have hb1 : lenB D ≤ 30000 := by have := lenB_le 60 0 s; rw [hD] at this; omega
    have hb3 : D.length ≤ 60 := by have := openB_len 60 0 s; rw [hD] at this; omega
    rw [hD] at HV hce hla q1 ⊢
    obtain ⟨m1, hm1⟩ : ∃ m, lenB D = m := ⟨_, rfl⟩
    obtain ⟨cb, hcb⟩ : ∃ b, decide (lenB (openB 60 0 d) = d.length) = b := ⟨_, rfl⟩
    rw [hm1] at HV hla hb1
    rw [hcb] at hce HV
    obtain ⟨es, hes⟩ : ∃ es, endsI D = es := ⟨_, rfl⟩
    have hel := endsI_len D
    rw [hes] at hel hla hce q1
    obtain ⟨cs, hcs⟩ : ∃ cs, recC D = cs := ⟨_, rfl⟩
    obtain ⟨m3, hm3⟩ : ∃ m, D.length = m := ⟨_, rfl⟩
    rw [hcs] at q1 ⊢
    rw [hm3] at HV hb3 hla hel q1 ⊢
    obtain ⟨fs, hfs⟩ : ∃ fs, [(0 : Int)] ++ es = fs := ⟨_, rfl⟩
    have hfl : fs.length = m3 + 1 := by rw [← hfs]; simp [hel]
    rw [hfs] at hla hce
    have HFS := Lib.hid hfs
    have HFL := Lib.hid hfl
    have HLA := Lib.hid hla
    have HCE := Lib.hid hce
    have HSL := Lib.hid hsl
    have hel2 : es.length ≤ 60 := by omega
    clear hs hD hm1 hcb hes hel hcs hm3 hfs hfl hla hce hsl hw
    go_enter Tryd.func47, Tryd.ntmps47
    go_wp2_with (first | (go_at_call 45; refine (q1.out _ HL0.out).mono ?_; rintro e w1 ⟨v1, v2, rfl, o1, o2, hdis, hk1⟩; obtain ⟨a1', q1', rfl, _⟩ := o1.view; obtain ⟨a2', q2', rfl, _⟩ := o2.view; obtain ⟨c0, c1, c2, fr⟩ := HBOX.out w1 hk1) | (at_builtin; refine wapp rfl (.tmp 25) (.tmp 26) rfl (OI.one (Nat.le_refl _)) (o2.alloc _).readNo rfl rfl (by simp; omega) (by simp) ?_))
    intro v3 w2 o3 k3 f3
    have hfs : 0 :: es = fs := HFS.out
    rw [hfs] at o3
    clear hfs
    have hs1 := hk1.size
    have hk2 : Chg No (w.alloc (.cells #[.string ⟨d.toArray⟩, .string ⟨p.toArray⟩, .int .i64 n] 23)) w2 := (hk1.alloc _).step k3 (fun q hq hl => by have := own_slice.1 hq; omega)
    have o1' := (o1.alloc (.cells #[.int .i64 0] 3)).step k3 (fun q hq hq' => by have := own_slice.1 hq'; have := (o1.lt q hq).2; omega)
    obtain ⟨c0, c1, c2, fr⟩ := HBOX.out w2 hk2
    obtain ⟨a3, q3, rfl, hq1, hq2, hq3⟩ := o3.view
    obtain ⟨g, rfl, _, _, hg, _⟩ := hq3 (by have := HFL.out; omega)
    have hcon := Lib.hid (fun W (hW : Chg No w2 W) => Tryd.slices_Contains_int g 0 fs.length q3 fs (d.length : Int) W (Nat.le_refl _) (by omega) (fun j hj => by
      rw [Nat.zero_add]
      have := hg j hj
      exact (hW.cellD g j (by assumption) (fun e => e)).trans this))
    have hlast := hg m3 (by have := HFL.out; omega)
    rw [HLA.out] at hlast
    have hN : 1 ≤ fs.length := by have := HFL.out; omega
    have hidx : fs.length - 1 = m3 := by have := HFL.out; omega
    have hcon : Hid (∀ W, Chg No w2 W → Calls Tryd.prog 68 #[.slice (some ⟨g, 0, none⟩) fs.length q3, .int .i64 (d.length : Int)] W fun e w' => e = .returned (.bool cb) ∧ w' = W) := Lib.hid (fun W hW => by
      have := hcon.out W hW
      rw [List.take_length, HCE.out] at this
      exact this)
    clear hg hq3
    obtain ⟨N, hNe⟩ : ∃ N, fs.length = N := ⟨_, rfl⟩
    rw [hNe] at hN hidx hcon hq1 ⊢
    rw [← hidx] at hlast
    clear hNe hidx
    have HFIN : Hid (∀ b : Bool, validB d p n = b → ∃ v', Ending.returned (.tuple #[if b then .slice a1' m3 q1' else .slice none 0 0, .bool b]) = .returned (.tuple #[v', .bool (validB d p n)]) ∧
      (validB d p n = true → OS 43 2 w.heap.size w2 v' m3 cs) ∧ (validB d p n = false → v' = .slice none 0 0) ∧ Chg No w w2) := Lib.hid (fun b hb => by
        rw [hb]
        refine ⟨_, rfl, fun h => ?_, fun h => ?_, k0.trans hk2⟩
        · rw [if_pos h]; exact o1'.weak (by rw [World.size_alloc]; omega)
        · rw [if_neg (by rw [h]; decide)])
    by_cases h1 : (m1 : Int) = (s.length : Int)
    · cases cb with
      | true =>
        by_cases h2 : n = (m3 : Int)
        · have HB : Hid (validB d p n = true) := Lib.hid (by rw [HV.out, h2]; have := HSL.out; simp; omega)
          go_wp2_with (go_at_call 68; refine (hcon.out _ (Chg.refl _ _)).mono ?_; rintro e w3 ⟨rfl, rfl⟩)
          go_ret2
          exact HFIN.out true HB.out
        · have HB : Hid (validB d p n = false) := Lib.hid (by rw [HV.out]; simp; omega)
          go_wp2_with (go_at_call 68; refine (hcon.out _ (Chg.refl _ _)).mono ?_; rintro e w3 ⟨rfl, rfl⟩)
          go_ret2
          exact HFIN.out false HB.out
      | false =>
        have HB : Hid (validB d p n = false) := Lib.hid (by rw [HV.out]; simp)
        go_wp2_with (go_at_call 68; refine (hcon.out _ (Chg.refl _ _)).mono ?_; rintro e w3 ⟨rfl, rfl⟩)
        go_ret2
        exact HFIN.out false HB.out
    · have HB : Hid (validB d p n = false) := Lib.hid (by rw [HV.out]; have := HSL.out; simp; omega)
      go_wp2_with fail
      go_ret2
      exact HFIN.out false HB.out
  · have HV : Hid (validB d p n = false) := Lib.hid (by simp [validB, hlen])
    go_enter Tryd.func47, Tryd.ntmps47
    go_wp2_with fail
    go_ret2
    exact valid_no (v := .slice none 0 0) HV.out k0
end Go.Proofs.YtmnohickmidfkaaDoor
