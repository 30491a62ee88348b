import Derived.Test.YtmnohickmidfkaaDoorYe
/- a record encoded and read by the program -/
namespace Go.Proofs.YtmnohickmidfkaaDoor
open Go.RowKit

def encB (k : Nat) (c r : List UInt8) : Bool := inB (k : Int) 0 59 && recB c r
def encT (k : Nat) (c r : List UInt8) : List UInt8 := if encB k c r then lineL k c r ++ [10] else []
set_option maxRecDepth 100000 in
set_option maxHeartbeats 1000000 in
theorem EncodeRecord_any (k : Nat) (c r : List UInt8) (w : World) (hk : k ≤ 1152921504606846976) (hc : c.length ≤ 1125899906842624) (hr : r.length ≤ 1125899906842624) (hw : Lay w) :
    Calls Tryd.prog 35 #[.int .i64 k, rv c r] w fun e w' => e = .returned (.tuple #[.string ⟨(encT k c r).toArray⟩, .bool (encB k c r)]) ∧ Chg No w w' := by
  have k0 := (Chg.refl No w).alloc (.cells #[.string ⟨c.toArray⟩, .string ⟨r.toArray⟩] 43)
  have HL := Lib.hid (hw.keep k0)
  obtain ⟨c0, c1, fr⟩ := Box2.new w (.string ⟨c.toArray⟩) (.string ⟨r.toArray⟩) 43
  have q1 := Lib.hid (fun W hW => IsValidRecord_any c r W (by omega) (by omega) hW)
  have BX : Hid (∀ W, Chg No (w.alloc (.cells #[.string ⟨c.toArray⟩, .string ⟨r.toArray⟩] 43)) W → Box2 W w.heap.size (.string ⟨c.toArray⟩) (.string ⟨r.toArray⟩)) := Lib.hid (fun W hW => (Box2.new w (.string ⟨c.toArray⟩) (.string ⟨r.toArray⟩) 43).keep hW)
  unfold rv at q1 ⊢
  cases g1 : inB (k : Int) 0 59 with
  | false =>
    have hB : Hid (encB k c r = false) := Lib.hid (by simp [encB, g1])
    have hT : Hid (encT k c r = []) := Lib.hid (by rw [encT, hB.out]; rfl)
    rw [hB.out, hT.out]
    go_enter Tryd.func35, Tryd.ntmps35
    go_wp2_with (go_at_call 49; refine (within_any _ _ _ _).mono ?_; rintro e w' ⟨rfl, rfl⟩)
    all_goals go_ret2
    all_goals exact ⟨rfl, k0⟩
  | true =>
    cases g2 : recB c r with
    | false =>
      have hB : Hid (encB k c r = false) := Lib.hid (by simp [encB, g2])
      have hT : Hid (encT k c r = []) := Lib.hid (by rw [encT, hB.out]; rfl)
      rw [hB.out, hT.out]
      rw [g2] at q1
      go_enter Tryd.func35, Tryd.ntmps35
      go_wp2_with (first | (go_at_call 49; refine (within_any _ _ _ _).mono ?_; rintro e w' ⟨rfl, rfl⟩) | (go_at_call 39; refine (q1.out _ HL.out).mono ?_; rintro e w1 ⟨rfl, hk1⟩))
      go_ret2
      exact ⟨rfl, k0.trans hk1⟩
    | true =>
      have hB : Hid (encB k c r = true) := Lib.hid (by simp [encB, g1, g2])
      have hT : Hid (encT k c r = lineL k c r ++ [10]) := Lib.hid (by rw [encT, hB.out]; rfl)
      have hkk := inB_iff.1 g1
      have q2 := Lib.hid (fun W hW => encoded_any k c r W (by omega) g2 hW)
      obtain ⟨Z, hZ⟩ : ∃ Z, Z = lineL k c r ++ [10] := ⟨_, rfl⟩
      rw [hB.out, hT.out]
      rw [← hZ] at q2 ⊢
      unfold rv at q2
      rw [g2] at q1
      clear hZ hT hB
      go_enter Tryd.func35, Tryd.ntmps35
      go_wp2_with (first | (go_at_call 49; refine (within_any _ _ _ _).mono ?_; rintro e w' ⟨rfl, rfl⟩) | (go_at_call 39; refine (q1.out _ HL.out).mono ?_; rintro e w1 ⟨rfl, hk1⟩; obtain ⟨c0, c1, fr⟩ := BX.out w1 hk1; have HL1 := Lib.hid (HL.out.keep hk1)) | (go_at_call 52; refine (q2.out _ HL1.out).mono ?_; rintro e w2 ⟨rfl, hk2⟩))
      go_ret2
      exact ⟨rfl, (k0.trans hk1).trans hk2⟩

def cutV (x : UInt8) (l : List UInt8) : Value := .tuple #[.string ⟨(preB x l).toArray⟩, .string ⟨(postB x l).toArray⟩, .bool (hasL x l)]
theorem cut_any (x : UInt8) (l : List UInt8) (w : World) (hl : l.length ≤ 1073741824) (hw : Lay w) :
    Calls Tryd.prog 66 #[.string ⟨l.toArray⟩, .string ⟨#[x]⟩] w fun e w' => e = .returned (cutV x l) ∧ Chg No w w' := by
  obtain ⟨mx, hmx⟩ := hw.max
  refine (Tryd.strings_Cut ⟨l.toArray⟩ ⟨#[x]⟩ mx w (by simp [ByteArray.size]; omega) hmx).mono ?_
  rintro e w' ⟨rfl, n, rfl⟩
  refine ⟨?_, drewN_chg' w n⟩
  rw [show Lib.cut (ByteArray.mk l.toArray).data.toList (ByteArray.mk #[x]).data.toList = (preB x l, postB x l, decide (x ∈ l)) from cut_one x l]
  rfl
theorem Box2.put2 {w : World} {b : Nat} {v0 v1 : Value} (h : Box2 w b v0 v1) (x0 x1 : Value) : Box2 ((w.setCell ⟨b, 0, none⟩ x0).setCell ⟨b, 1, none⟩ x1) b x0 x1 := by
  obtain ⟨c0, c1, fr⟩ := h
  refine ⟨?_, ?_, fun o => ?_⟩
  · go_simp
  · go_simp
  · go_simp
theorem Chg.put2 {S : Nat → Prop} {w0 wr : World} (h : Chg S w0 wr) {b : Nat} (hb : b < w0.heap.size → S b) (x0 x1 : Value) : Chg S w0 ((wr.setCell ⟨b, 0, none⟩ x0).setCell ⟨b, 1, none⟩ x1) :=
  (h.setCell (p := ⟨b, 0, none⟩) hb x0).setCell (p := ⟨b, 1, none⟩) hb x1
/-- whether the program takes a line for the record with that number -/
def readB (k : Nat) (l : List UInt8) : Bool := verB l && encB k (ofText (preB 35 l)).1 (ofText (preB 35 l)).2 && ((encT k (ofText (preB 35 l)).1 (ofText (preB 35 l)).2) == l ++ [10])
theorem readB_eq (k : Nat) (l : List UInt8) : readB k l = (decB k l).isSome := by
  rw [← decB_impl, readB, Bool.and_assoc]
  congr 1
  have e : inB (k : Int) 0 59 = decide (k < 60) := by
    rw [inB]
    have h1 : decide ((0 : Int) ≤ (k : Int)) = true := by rw [decide_eq_true_eq]; omega
    have h2 : decide ((k : Int) ≤ 59) = decide (k < 60) := by rw [decide_eq_decide]; omega
    rw [h1, h2]; rfl
  cases hB : encB k (ofText (preB 35 l)).1 (ofText (preB 35 l)).2 with
  | false =>
    rw [encB, e] at hB
    rw [hB]; rfl
  | true =>
    have hT : encT k (ofText (preB 35 l)).1 (ofText (preB 35 l)).2 = lineL k (ofText (preB 35 l)).1 (ofText (preB 35 l)).2 ++ [10] := by rw [encT, hB]; rfl
    rw [encB, e] at hB
    rw [hT, hB, Bool.true_and, Bool.true_and]
    have : (lineL k (ofText (preB 35 l)).1 (ofText (preB 35 l)).2 ++ [10] == l ++ [10]) = decide (lineL k (ofText (preB 35 l)).1 (ofText (preB 35 l)).2 = l) := by
      rw [Bool.eq_iff_iff, beq_iff_eq, decide_eq_true_eq]
      exact List.append_left_inj _
    rw [this]
set_option maxRecDepth 100000 in
set_option maxHeartbeats 1000000 in
theorem readRecord_any (k : Nat) (l : List UInt8) (w : World) (hk : k ≤ 1152921504606846976) (hl : l.length ≤ 1048576) (hw : Lay w) :
    Calls Tryd.prog 67 #[.int .i64 k, .string ⟨l.toArray⟩] w fun e w' => ∃ c r, e = .returned (.tuple #[rv c r, .bool (readB k l)]) ∧ (readB k l = true → decB k l = some (c, r)) ∧ Chg No w w' := by
  have q1 := Lib.hid (fun W hW => VerifyChecksum_any l W (by omega) hW)
  cases g1 : verB l with
  | false =>
    have hR : Hid (readB k l = false) := Lib.hid (by rw [readB, g1]; rfl)
    obtain ⟨X, hX⟩ : ∃ X, (if verB l then preB 35 l else []) = X := ⟨_, rfl⟩
    rw [hX, g1] at q1
    rw [hR.out]
    have k0 := (Chg.refl No w).alloc (.cells #[.string ByteArray.empty, .string ByteArray.empty] 43)
    have HL := Lib.hid (hw.keep k0)
    have BX : Hid (∀ W, Chg No (w.alloc (.cells #[.string ByteArray.empty, .string ByteArray.empty] 43)) W → Box2 W w.heap.size (.string ByteArray.empty) (.string ByteArray.empty)) := Lib.hid (fun W hW => (Box2.new w (.string ByteArray.empty) (.string ByteArray.empty) 43).keep hW)
    clear hX hw
    go_enter Tryd.func67, Tryd.ntmps67
    go_wp2_with (go_at_call 79; refine (q1.out _ HL.out).mono ?_; rintro e w1 ⟨rfl, hk1⟩; obtain ⟨c0, c1, fr⟩ := BX.out w1 hk1)
    obtain ⟨z0, z1, _⟩ := (BX.out w1 hk1).put2 (.string ⟨#[]⟩) (.string ⟨#[]⟩)
    have y0 := World.cell?_setCell_same w1 _ (.string ⟨#[]⟩) c0
    refine bodyPost_ret (v := .tuple #[.agg #[.string ⟨#[]⟩, .string ⟨#[]⟩], .bool false]) (by simp [results, Tryd.results67, go_sem, z0, z1]) rfl ?_
    exact ⟨[], [], rfl, (fun h => by cases h), (k0.trans hk1).put2 (fun h => absurd h (by omega)) _ _⟩
  | true =>
    obtain ⟨mx, hmx⟩ := hw.max
    rw [g1] at q1
    simp only [if_true] at q1
    have hp1 := pre_le 35 l
    have hR : Hid (readB k l = (encB k (ofText (preB 35 l)).1 (ofText (preB 35 l)).2 && ((encT k (ofText (preB 35 l)).1 (ofText (preB 35 l)).2) == l ++ [10]))) := Lib.hid (by rw [readB, g1, Bool.true_and])
    have hD := Lib.hid (readB_eq k l)
    have hDS : Hid (∀ x, decB k l = some x → x = ofText (preB 35 l)) := Lib.hid (fun x hx => by
      obtain ⟨c, r⟩ := x
      exact (decB_some hx).2.2.2.symm)
    obtain ⟨p, hp⟩ : ∃ p, p = preB 35 l := ⟨_, rfl⟩
    rw [← hp] at q1 hp1 hR hDS
    have q2 := Lib.hid (fun W hW => cut_any 32 p W (by omega) hW)
    have hp2 : (postB 32 p).length ≤ p.length := by
      by_cases h : 32 ∈ p
      · rw [post_drop 32 p h, List.length_drop]; omega
      · rw [(pre_all 32 p h).2]; simp
    have q3 := Lib.hid (fun W hW => cut_any 64 (postB 32 p) W (by omega) hW)
    have hc := pre_le 64 (postB 32 p)
    have hr : (postB 64 (postB 32 p)).length ≤ (postB 32 p).length := by
      by_cases h : 64 ∈ postB 32 p
      · rw [post_drop 64 _ h, List.length_drop]; omega
      · rw [(pre_all 64 _ h).2]; simp
    have hof : ofText p = (preB 64 (postB 32 p), postB 64 (postB 32 p)) := rfl
    rw [hof] at hR hDS
    simp only at hR
    obtain ⟨c, hce⟩ : ∃ c, c = preB 64 (postB 32 p) := ⟨_, rfl⟩
    obtain ⟨r, hre⟩ : ∃ r, r = postB 64 (postB 32 p) := ⟨_, rfl⟩
    obtain ⟨u, hue⟩ : ∃ u, u = postB 32 p := ⟨_, rfl⟩
    rw [← hce, ← hre] at hR hDS
    rw [← hce] at hc
    rw [← hre] at hr
    rw [← hue] at hc hr hp2
    unfold cutV at q2 q3
    rw [← hce, ← hre, ← hue] at q3
    rw [← hue] at q2
    have q4 := Lib.hid (fun W hW => EncodeRecord_any k c r W hk (by omega) (by omega) hW)
    have k0 := (Chg.refl No w).alloc (.cells #[.string ByteArray.empty, .string ByteArray.empty] 43)
    have BX : Hid (∀ W, Chg No (w.alloc (.cells #[.string ByteArray.empty, .string ByteArray.empty] 43)) W → Box2 W w.heap.size (.string ByteArray.empty) (.string ByteArray.empty)) := Lib.hid (fun W hW => (Box2.new w (.string ByteArray.empty) (.string ByteArray.empty) 43).keep hW)
    have HL := Lib.hid (hw.keep k0)
    clear hp hce hre hue hof hw hmx
    obtain ⟨T, hT⟩ : ∃ T, T = encT k c r := ⟨_, rfl⟩
    obtain ⟨Y, hY⟩ : ∃ Y, Y = l ++ [10] := ⟨_, rfl⟩
    have a1 := cat_to (P := Tryd.prog) hY (by rw [hY]; simp; omega)
    have HF0 : Hid (readB k l = true → decB k l = some (c, r)) := Lib.hid (fun h => by
      cases hd : decB k l with
      | none => rw [hD.out, hd] at h; cases h
      | some x => rw [hDS.out x hd])
    rw [← hT] at hR q4
    rw [← hY] at hR
    unfold rv at q4
    clear hT hY hD hDS
    unfold rv
    cases g2 : encB k c r with
    | false =>
      have hB : Hid (readB k l = false) := Lib.hid (by rw [hR.out, g2]; rfl)
      rw [hB.out] at HF0 ⊢
      have HF := HF0
      rw [g2] at q4
      clear hR HF0
      go_enter Tryd.func67, Tryd.ntmps67
      go_wp2_with (first | (go_at_call 79; refine (q1.out _ HL.out).mono ?_; rintro e w1 ⟨rfl, hk1⟩) | (go_at_call 66; first | (with_reducible refine (q2.out _ (HL.out.keep hk1)).mono ?_; rintro e w2 ⟨rfl, hk2⟩) | (with_reducible refine (q3.out _ ((HL.out.keep hk1).keep hk2)).mono ?_; rintro e w3 ⟨rfl, hk3⟩)) | (go_at_call 35; refine (q4.out _ ((((HL.out.keep hk1).keep hk2).keep hk3).keep ((Chg.refl No w3).alloc _))).mono ?_; rintro e w4 ⟨rfl, hk4⟩; obtain ⟨c0, c1, fr⟩ := (Box2.new w3 (.string ⟨c.toArray⟩) (.string ⟨r.toArray⟩) 43).keep hk4; have kk := ((hk1.trans hk2).trans hk3).trans (((Chg.refl No w3).alloc _).trans hk4); have bb := BX.out w4 kk; obtain ⟨d0, d1, fr'⟩ := id bb))
      obtain ⟨z0, z1, _⟩ := bb.put2 (.string ⟨c.toArray⟩) (.string ⟨r.toArray⟩)
      have y0 := World.cell?_setCell_same w4 _ (.string ⟨c.toArray⟩) d0
      refine bodyPost_ret (v := .tuple #[.agg #[.string ⟨c.toArray⟩, .string ⟨r.toArray⟩], .bool false]) (by simp [results, Tryd.results67, go_sem, z0, z1]) rfl ?_
      exact ⟨c, r, rfl, HF.out, (k0.trans kk).put2 (fun h => absurd h (by omega)) _ _⟩
    | true =>
      rw [g2] at q4
      cases g3 : (T == Y) with
      | false =>
        have hB : Hid (readB k l = false) := Lib.hid (by rw [hR.out, g2, g3]; rfl)
        rw [hB.out] at HF0 ⊢
        have HF := HF0
        clear hR HF0
        go_enter Tryd.func67, Tryd.ntmps67
        go_wp2_with (first | (go_at_call 79; refine (q1.out _ HL.out).mono ?_; rintro e w1 ⟨rfl, hk1⟩) | (go_at_call 66; first | (with_reducible refine (q2.out _ (HL.out.keep hk1)).mono ?_; rintro e w2 ⟨rfl, hk2⟩) | (with_reducible refine (q3.out _ ((HL.out.keep hk1).keep hk2)).mono ?_; rintro e w3 ⟨rfl, hk3⟩)) | (go_at_call 35; refine (q4.out _ ((((HL.out.keep hk1).keep hk2).keep hk3).keep ((Chg.refl No w3).alloc _))).mono ?_; rintro e w4 ⟨rfl, hk4⟩; obtain ⟨c0, c1, fr⟩ := (Box2.new w3 (.string ⟨c.toArray⟩) (.string ⟨r.toArray⟩) 43).keep hk4; have kk := ((hk1.trans hk2).trans hk3).trans (((Chg.refl No w3).alloc _).trans hk4); have bb := BX.out w4 kk; obtain ⟨d0, d1, fr'⟩ := id bb))
        obtain ⟨z0, z1, _⟩ := bb.put2 (.string ⟨c.toArray⟩) (.string ⟨r.toArray⟩)
        have y0 := World.cell?_setCell_same w4 _ (.string ⟨c.toArray⟩) d0
        refine bodyPost_ret (v := .tuple #[.agg #[.string ⟨c.toArray⟩, .string ⟨r.toArray⟩], .bool false]) (by simp [results, Tryd.results67, go_sem, z0, z1]) rfl ?_
        exact ⟨c, r, rfl, HF.out, (k0.trans kk).put2 (fun h => absurd h (by omega)) _ _⟩
      | true =>
        have hB : Hid (readB k l = true) := Lib.hid (by rw [hR.out, g2, g3]; rfl)
        rw [hB.out] at HF0 ⊢
        have HF := HF0
        clear hR HF0
        go_enter Tryd.func67, Tryd.ntmps67
        go_wp2_with (first | (go_at_call 79; refine (q1.out _ HL.out).mono ?_; rintro e w1 ⟨rfl, hk1⟩) | (go_at_call 66; first | (with_reducible refine (q2.out _ (HL.out.keep hk1)).mono ?_; rintro e w2 ⟨rfl, hk2⟩) | (with_reducible refine (q3.out _ ((HL.out.keep hk1).keep hk2)).mono ?_; rintro e w3 ⟨rfl, hk3⟩)) | (go_at_call 35; refine (q4.out _ ((((HL.out.keep hk1).keep hk2).keep hk3).keep ((Chg.refl No w3).alloc _))).mono ?_; rintro e w4 ⟨rfl, hk4⟩; obtain ⟨c0, c1, fr⟩ := (Box2.new w3 (.string ⟨c.toArray⟩) (.string ⟨r.toArray⟩) 43).keep hk4; have kk := ((hk1.trans hk2).trans hk3).trans (((Chg.refl No w3).alloc _).trans hk4); have bb := BX.out w4 kk; obtain ⟨d0, d1, fr'⟩ := id bb))
        obtain ⟨z0, z1, _⟩ := bb.put2 (.string ⟨c.toArray⟩) (.string ⟨r.toArray⟩)
        have y0 := World.cell?_setCell_same w4 _ (.string ⟨c.toArray⟩) d0
        refine bodyPost_ret (v := .tuple #[.agg #[.string ⟨c.toArray⟩, .string ⟨r.toArray⟩], .bool true]) (by simp [results, Tryd.results67, go_sem, z0, z1]) rfl ?_
        exact ⟨c, r, rfl, HF.out, (k0.trans kk).put2 (fun h => absurd h (by omega)) _ _⟩

end Go.Proofs.YtmnohickmidfkaaDoor
