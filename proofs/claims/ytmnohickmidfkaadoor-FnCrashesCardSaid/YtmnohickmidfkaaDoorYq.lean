import Derived.Test.YtmnohickmidfkaaDoorYp
import Derived.Lib.ConvBytes
import Derived.Laws.IdiomStrings
/- CrashLog: both sides and the law -/
namespace Go.Proofs.YtmnohickmidfkaaDoor
open Go.RowKit

/-- the bytes l in a block -/
structure BY (w : World) (g : Nat) (l : List UInt8) : Prop where
  lt : g < w.heap.size
  cell : ∀ j, j < l.length → w.cell? ⟨g, j, none⟩ = some (.int .u8 ((l.getD j 0).toNat : Int))
  fr : ∀ j, j < l.length → w.frozen? ⟨g, j, none⟩ = false
theorem BY.keep {w w' : World} {g : Nat} {l : List UInt8} (h : BY w g l) (hc : Chg No w w') : BY w' g l :=
  ⟨Nat.lt_of_lt_of_le h.lt hc.size, fun j hj => (hc.cellD g j h.lt (fun e => e)).trans (h.cell j hj), fun j hj => (World.frozen?_of_block (hc.block g h.lt (fun e => e))).trans (h.fr j hj)⟩
theorem BY.set {w : World} {g : Nat} {l : List UInt8} (h : BY w g l) (j : Nat) (hj : j < l.length) (x : UInt8) : BY (w.setCell ⟨g, j, none⟩ (.int .u8 (x.toNat : Int))) g (l.set j x) := by
  refine ⟨by simpa using h.lt, fun i hi => ?_, fun i hi => ?_⟩
  · rw [List.length_set] at hi
    by_cases e : i = j
    · subst e
      rw [World.cell?_setCell_same _ _ _ (h.cell i hi)]
      simp [List.getD_eq_getElem?_getD, hi]
    · have : ¬ j = i := fun h => e h.symm
      have hh := h.cell i hi
      rw [World.cell?_setCell_other _ _ _ _ (fun h => e (by simp only [Addr.mk.injEq] at h; exact h.2.1.symm)), hh]
      simp [List.getD_eq_getElem?_getD, this]
  · rw [List.length_set] at hi
    exact (World.frozen?_setCell _ _ _ _).trans (h.fr i hi)
theorem chg_at (w : World) (g j : Nat) (x : Value) : Chg (fun q => q = g) w (w.setCell ⟨g, j, none⟩ x) := Chg.setCell (S := fun q => q = g) (Chg.refl _ w) (p := ⟨g, j, none⟩) (fun _ => rfl) x
/-- bytes of a string -/
theorem conv_any (l : List UInt8) (w : World) : ∃ cap W, (convert 9 51 (.string ⟨l.toArray⟩)).run Tryd.prog w = .ok (.slice (some ⟨w.heap.size, 0, none⟩) l.length cap) W ∧ BY W w.heap.size l ∧ Chg No w W := by
  refine ⟨Go.grownCap w l.length 0 5, Lib.bytesWorld w 5 ⟨l.toArray⟩, ?_, ⟨?_, fun j hj => ?_, fun j hj => ?_⟩, ?_⟩
  · have h := Lib.run_convert_string_bytes (P := Tryd.prog) w 9 51 5 ⟨l.toArray⟩ Tryd.underlying9 Tryd.underlying51 Tryd.underlying5
    have hsz : (⟨l.toArray⟩ : ByteArray).size = l.length := by simp [ByteArray.size]
    rw [hsz] at h
    exact h
  · rw [Lib.bytesWorld_size]; omega
  · have := Lib.bytesWorld_cell w 5 ⟨l.toArray⟩ j (by simpa [ByteArray.size] using hj)
    simpa using this
  · rw [World.frozen?, Lib.bytesWorld_at_new]
    have hsz : l.length ≤ (Lib.bytesCells w 5 ⟨l.toArray⟩).size := by simp [Lib.bytesCells]
    simp
    omega
  · refine ⟨?_, ?_, ?_, ?_, ?_⟩
    · rfl
    · rfl
    · rfl
    · rw [Lib.bytesWorld_size]; omega
    · exact fun k hk _ => Lib.bytesWorld_at_old w _ _ k hk
/-- a string of bytes -/
theorem BY.back {w : World} {g : Nat} {l : List UInt8} (h : BY w g l) (n cap : Nat) (hn : n = l.length) : (convert 51 9 (.slice (some ⟨g, 0, none⟩) n cap)).run Tryd.prog w = .ok (.string ⟨l.toArray⟩) w := by
  subst hn
  refine run_convert_bytes_back (P := Tryd.prog) w 51 9 5 ⟨g, 0, none⟩ cap l Tryd.underlying51 Tryd.underlying5 Tryd.underlying9 (fun j hj => ?_)
  rw [Addr.add_lit, Nat.zero_add, h.cell j hj, List.getD_eq_getElem?_getD, List.getElem?_eq_getElem hj]
  rfl

def flipL (l : List UInt8) : List UInt8 := l.set (l.length - 1) (255 - l.getD (l.length - 1) 0)
theorem flipL_len (l : List UInt8) : (flipL l).length = l.length := by simp [flipL]
theorem flip_app (d q : List UInt8) (h : 0 < q.length) : flipL (d ++ q) = d ++ flipL q := by
  unfold flipL
  have e : (d ++ q).length - 1 = d.length + (q.length - 1) := by rw [List.length_append]; omega
  rw [e, List.set_append_right _ _ (by omega), List.getD_eq_getElem?_getD, List.getElem?_append_right (by omega), List.getD_eq_getElem?_getD]
  have : d.length + (q.length - 1) - d.length = q.length - 1 := by omega
  rw [this]
theorem flip_wrap (b : UInt8) : IntKind.u8.wrap (255 - (b.toNat : Int)) = ((255 - b : UInt8).toNat : Int) := by
  have hb : b.toNat < 256 := b.toNat_lt
  have h1 : (255 - b : UInt8).toNat = 255 - b.toNat := UInt8.toNat_sub_of_le _ _ (by rw [UInt8.le_iff_toNat_le]; show b.toNat ≤ 255; omega)
  rw [h1, IntWalk.u8_in]
  · omega
  · omega
/-- what CrashLog returns -/
def crB (d p : List UInt8) (n keep : Int) : Bool := validB d p n && inB keep 0 (p.length : Int)
def crT (d p : List UInt8) (n keep : Int) (torn : Bool) : List UInt8 :=
  if crB d p n keep then (if torn && decide (0 < keep) then d ++ flipL (p.take keep.toNat) else d ++ p.take keep.toNat) else []

set_option maxRecDepth 100000 in
set_option maxHeartbeats 1000000 in
theorem specCrash_any (d p : List UInt8) (n keep : Int) (torn : Bool) (w : World) (hd : d.length ≤ 1048576) (hp : p.length ≤ 1048576) :
    Calls Tryd.prog 18 #[lv d p n, .int .i64 keep, .bool torn] w fun e w' => e = .returned (.tuple #[.string ⟨(crT d p n keep torn).toArray⟩, .bool (crB d p n keep)]) ∧ Chg No w w' := by
  have q1 := Lib.hid (fun W => l12Valid_any d p n W hd hp)
  unfold lv at q1 ⊢
  have k0 := (Chg.refl No w).alloc (.cells #[.string ⟨d.toArray⟩, .string ⟨p.toArray⟩, .int .i64 n] 23)
  have bx := BoxL.new w (.string ⟨d.toArray⟩) (.string ⟨p.toArray⟩) (.int .i64 n) 23
  have HBOX : Hid (∀ W, Chg No (w.alloc (.cells #[.string ⟨d.toArray⟩, .string ⟨p.toArray⟩, .int .i64 n] 23)) W → BoxL W w.heap.size (.string ⟨d.toArray⟩) (.string ⟨p.toArray⟩) (.int .i64 n)) := Lib.hid (fun W hW => bx.keep hW)
  obtain ⟨c0, c1, c2, fr⟩ := bx
  cases hv : validB d p n with
  | false =>
    have HB : Hid (crB d p n keep = false) := Lib.hid (by rw [crB, hv]; rfl)
    have HT : Hid (crT d p n keep torn = []) := Lib.hid (by rw [crT, HB.out]; rfl)
    rw [HB.out, HT.out]
    rw [hv] at q1
    clear hv
    go_enter Tryd.func18, Tryd.ntmps18
    go_wp2_with (go_at_call 46; refine (q1.out _).mono ?_; rintro e w1 ⟨rfl, hk1⟩; obtain ⟨c0, c1, c2, fr⟩ := HBOX.out w1 hk1)
    go_ret2
    exact ⟨rfl, k0.trans hk1⟩
  | true =>
    cases hin : inB keep 0 (p.length : Int) with
    | false =>
      have HB : Hid (crB d p n keep = false) := Lib.hid (by rw [crB, hv, hin]; rfl)
      have HT : Hid (crT d p n keep torn = []) := Lib.hid (by rw [crT, HB.out]; rfl)
      rw [HB.out, HT.out]
      rw [hv] at q1
      clear hv
      go_enter Tryd.func18, Tryd.ntmps18
      go_wp2_with (first | (go_at_call 46; refine (q1.out _).mono ?_; rintro e w1 ⟨rfl, hk1⟩; obtain ⟨c0, c1, c2, fr⟩ := HBOX.out w1 hk1) | (go_at_call 48; refine (l1In_any _ _ _ _).mono ?_; rintro e w2 ⟨rfl, rfl⟩))
      go_ret2
      exact ⟨rfl, k0.trans hk1⟩
    | true =>
      have HB : Hid (crB d p n keep = true) := Lib.hid (by rw [crB, hv, hin]; rfl)
      have hlen : d.length + p.length ≤ 30000 := by
        unfold validB at hv
        rw [Bool.and_eq_true, decide_eq_true_eq] at hv
        exact hv.1
      rw [hv] at q1
      have hkk := inB_iff.1 hin
      obtain ⟨k, rfl⟩ := Int.eq_ofNat_of_zero_le hkk.1
      have hk : k ≤ p.length := by omega
      have HT : Hid (crT d p n (k : Int) torn = if torn && decide (0 < (k : Int)) then d ++ flipL (p.take k) else d ++ p.take k) := Lib.hid (by rw [crT, HB.out, if_pos rfl]; simp)
      rw [HB.out]
      obtain ⟨t, ht⟩ : ∃ t, t = p.take k := ⟨_, rfl⟩
      have htl : t.length = k := by rw [ht, List.length_take]; omega
      have htk := take_run ht hk (by omega)
      rw [← ht] at HT
      have HCV : Hid (∀ W, ∃ cap W', (convert 9 51 (.string ⟨t.toArray⟩)).run Tryd.prog W = .ok (.slice (some ⟨W.heap.size, 0, none⟩) k cap) W' ∧ BY W' W.heap.size t ∧ Chg No W W') := Lib.hid (fun W => by rw [← htl]; exact conv_any t W)
      have HTL := Lib.hid htl
      clear hv ht htl
      by_cases hf : torn = true ∧ 0 < k
      · obtain ⟨rfl, hk0⟩ := hf
        obtain ⟨x, hx⟩ : ∃ x, x = d ++ flipL t := ⟨_, rfl⟩
        have hfl := flipL_len t
        have HX : Hid (crT d p n (k : Int) true = x) := Lib.hid (by rw [HT.out, hx]; simp [hk0])
        have a1 := cat_to (P := Tryd.prog) hx (by rw [hx, List.length_append, hfl, HTL.out]; omega)
        rw [HX.out]
        have HFL : Hid (t.set (k - 1) (255 - t.getD (k - 1) 0) = flipL t) := Lib.hid (by rw [flipL, HTL.out])
        obtain ⟨b, hb⟩ : ∃ b, t.getD (k - 1) 0 = b := ⟨_, rfl⟩
        have hwr := flip_wrap b
        obtain ⟨c, hc⟩ : ∃ c : UInt8, 255 - b = c := ⟨_, rfl⟩
        rw [hb, hc] at HFL
        rw [hc] at hwr
        have hk1' : k - 1 < t.length := by rw [HTL.out]; omega
        have HBB := Lib.hid hb
        have HK1 := Lib.hid hk1'
        obtain ⟨u, hu⟩ : ∃ u, flipL t = u := ⟨_, rfl⟩
        rw [hu] at HFL a1 hfl
        have HUL : Hid (k = u.length) := Lib.hid (by rw [hfl, HTL.out])
        clear hx hfl hb hc hk1' hu HT HX
        go_enter Tryd.func18, Tryd.ntmps18
        go_wp2_with (first | (go_at_call 46; refine (q1.out _).mono ?_; rintro e w1 ⟨rfl, hk1⟩; obtain ⟨cap, W2, hcv, hBY, hk2⟩ := HCV.out w1; have kw := (HBOX.out w1 hk1).lt; have hcell := hBY.cell (k - 1) HK1.out; rw [HBB.out] at hcell; have hfr := hBY.fr (k - 1) HK1.out; have hBS := hBY.set (k - 1) HK1.out c; rw [HFL.out] at hBS; have hbk := hBS.back k cap HUL.out; obtain ⟨c0, c1, c2, fr⟩ := HBOX.out w1 hk1; have kst := chg_at W2 w1.heap.size (k - 1) (.int .u8 (c.toNat : Int)); obtain ⟨e0, e1, e2, fe⟩ := (HBOX.out W2 (hk1.trans hk2)).step kst (by omega)) | (go_at_call 48; refine (l1In_any _ _ _ _).mono ?_; rintro e w2 ⟨rfl, rfl⟩))
        go_ret2
        exact ⟨rfl, (k0.trans (hk1.trans hk2)).step kst (fun q hq hl => by have := k0.size; have := hk1.size; omega)⟩
      · have HX : Hid (crT d p n (k : Int) torn = d ++ t) := Lib.hid (by
          rw [HT.out, if_neg]
          intro h
          rw [Bool.and_eq_true, decide_eq_true_eq] at h
          exact hf ⟨h.1, by omega⟩)
        obtain ⟨x, hx⟩ : ∃ x, x = d ++ t := ⟨_, rfl⟩
        have a1 := cat_to (P := Tryd.prog) hx (by rw [hx, List.length_append, HTL.out]; omega)
        rw [HX.out, ← hx]
        clear hx HT HX
        cases torn with
        | false =>
          clear hf
          go_enter Tryd.func18, Tryd.ntmps18
          go_wp2_with (first | (go_at_call 46; refine (q1.out _).mono ?_; rintro e w1 ⟨rfl, hk1⟩; obtain ⟨cap, W2, hcv, hBY, hk2⟩ := HCV.out w1; have hbk := hBY.back k cap HTL.out.symm; obtain ⟨c0, c1, c2, fr⟩ := HBOX.out w1 hk1; obtain ⟨e0, e1, e2, fe⟩ := HBOX.out W2 (hk1.trans hk2)) | (go_at_call 48; refine (l1In_any _ _ _ _).mono ?_; rintro e w2 ⟨rfl, rfl⟩))
          go_ret2
          exact ⟨rfl, k0.trans (hk1.trans hk2)⟩
        | true =>
          have hk0 : ¬ (0 < (k : Int)) := fun h => hf ⟨rfl, by omega⟩
          clear hf
          go_enter Tryd.func18, Tryd.ntmps18
          go_wp2_with (first | (go_at_call 46; refine (q1.out _).mono ?_; rintro e w1 ⟨rfl, hk1⟩; obtain ⟨cap, W2, hcv, hBY, hk2⟩ := HCV.out w1; have hbk := hBY.back k cap HTL.out.symm; obtain ⟨c0, c1, c2, fr⟩ := HBOX.out w1 hk1; obtain ⟨e0, e1, e2, fe⟩ := HBOX.out W2 (hk1.trans hk2)) | (go_at_call 48; refine (l1In_any _ _ _ _).mono ?_; rintro e w2 ⟨rfl, rfl⟩))
          go_ret2
          exact ⟨rfl, k0.trans (hk1.trans hk2)⟩

set_option maxRecDepth 100000 in
set_option maxHeartbeats 1000000 in
theorem implCrash_any (d p : List UInt8) (n keep : Int) (torn : Bool) (w : World) (hd : d.length ≤ 1048576) (hp : p.length ≤ 1048576) (hw : Lay w) :
    Calls Tryd.prog 19 #[lv d p n, .int .i64 keep, .bool torn] w fun e w' => e = .returned (.tuple #[.string ⟨(crT d p n keep torn).toArray⟩, .bool (crB d p n keep)]) ∧ Chg No w w' := by
  have q1 := Lib.hid (fun W hW => implValid_any d p n W hd hp hW)
  unfold lv at q1 ⊢
  have k0 := (Chg.refl No w).alloc (.cells #[.string ⟨d.toArray⟩, .string ⟨p.toArray⟩, .int .i64 n] 23)
  have bx := BoxL.new w (.string ⟨d.toArray⟩) (.string ⟨p.toArray⟩) (.int .i64 n) 23
  have HBOX : Hid (∀ W, Chg No (w.alloc (.cells #[.string ⟨d.toArray⟩, .string ⟨p.toArray⟩, .int .i64 n] 23)) W → BoxL W w.heap.size (.string ⟨d.toArray⟩) (.string ⟨p.toArray⟩) (.int .i64 n)) := Lib.hid (fun W hW => bx.keep hW)
  obtain ⟨c0, c1, c2, fr⟩ := bx
  have HL := Lib.hid (hw.keep k0)
  clear hw
  cases hv : validB d p n with
  | false =>
    have HB : Hid (crB d p n keep = false) := Lib.hid (by rw [crB, hv]; rfl)
    have HT : Hid (crT d p n keep torn = []) := Lib.hid (by rw [crT, HB.out]; rfl)
    rw [HB.out, HT.out]
    rw [hv] at q1
    clear hv
    go_enter Tryd.func19, Tryd.ntmps19
    go_wp2_with (go_at_call 17; refine (q1.out _ HL.out).mono ?_; rintro e w1 ⟨rfl, hk1⟩; obtain ⟨c0, c1, c2, fr⟩ := HBOX.out w1 hk1)
    go_ret2
    exact ⟨rfl, k0.trans hk1⟩
  | true =>
    cases hin : inB keep 0 (p.length : Int) with
    | false =>
      have HB : Hid (crB d p n keep = false) := Lib.hid (by rw [crB, hv, hin]; rfl)
      have HT : Hid (crT d p n keep torn = []) := Lib.hid (by rw [crT, HB.out]; rfl)
      rw [HB.out, HT.out]
      rw [hv] at q1
      clear hv
      go_enter Tryd.func19, Tryd.ntmps19
      go_wp2_with (first | (go_at_call 17; refine (q1.out _ HL.out).mono ?_; rintro e w1 ⟨rfl, hk1⟩; obtain ⟨c0, c1, c2, fr⟩ := HBOX.out w1 hk1) | (go_at_call 49; refine (within_any _ _ _ _).mono ?_; rintro e w2 ⟨rfl, rfl⟩))
      go_ret2
      exact ⟨rfl, k0.trans hk1⟩
    | true =>
      have HB : Hid (crB d p n keep = true) := Lib.hid (by rw [crB, hv, hin]; rfl)
      have hlen : d.length + p.length ≤ 30000 := by
        unfold validB at hv
        rw [Bool.and_eq_true, decide_eq_true_eq] at hv
        exact hv.1
      rw [hv] at q1
      have hkk := inB_iff.1 hin
      obtain ⟨k, rfl⟩ := Int.eq_ofNat_of_zero_le hkk.1
      have hk : k ≤ p.length := by omega
      have HT : Hid (crT d p n (k : Int) torn = if torn && decide (0 < (k : Int)) then d ++ flipL (p.take k) else d ++ p.take k) := Lib.hid (by rw [crT, HB.out, if_pos rfl]; simp)
      rw [HB.out]
      obtain ⟨t, ht⟩ : ∃ t, t = p.take k := ⟨_, rfl⟩
      have htl : t.length = k := by rw [ht, List.length_take]; omega
      have htk := take_run ht hk (by omega)
      rw [← ht] at HT
      obtain ⟨x, hx⟩ : ∃ x, x = d ++ t := ⟨_, rfl⟩
      have a1 := cat_to (P := Tryd.prog) hx (by rw [hx, List.length_append, htl]; omega)
      obtain ⟨N, hN⟩ : ∃ N, x.length = N := ⟨_, rfl⟩
      have hNk : k ≤ N := by rw [← hN, hx, List.length_append, htl]; omega
      have hN2 : N ≤ 30000 := by rw [← hN, hx, List.length_append, htl]; omega
      have HCV : Hid (∀ W, ∃ cap W', (convert 9 51 (.string ⟨x.toArray⟩)).run Tryd.prog W = .ok (.slice (some ⟨W.heap.size, 0, none⟩) N cap) W' ∧ BY W' W.heap.size x ∧ Chg No W W') := Lib.hid (fun W => by rw [← hN]; exact conv_any x W)
      have HTL := Lib.hid htl
      have HNN := Lib.hid hN
      have HXX := Lib.hid hx
      clear hv ht htl hx hN
      by_cases hf : torn = true ∧ 0 < k
      · obtain ⟨rfl, hk0⟩ := hf
        have HX : Hid (crT d p n (k : Int) true = flipL x) := Lib.hid (by rw [HT.out, HXX.out, flip_app d t (by rw [HTL.out]; exact hk0)]; simp [hk0])
        rw [HX.out]
        have HFL : Hid (x.set (N - 1) (255 - x.getD (N - 1) 0) = flipL x) := Lib.hid (by rw [flipL, HNN.out])
        have hfl := flipL_len x
        obtain ⟨b, hb⟩ : ∃ b, x.getD (N - 1) 0 = b := ⟨_, rfl⟩
        have hwr := flip_wrap b
        obtain ⟨c, hc⟩ : ∃ c : UInt8, 255 - b = c := ⟨_, rfl⟩
        rw [hb, hc] at HFL
        rw [hc] at hwr
        have hN1 : N - 1 < x.length := by rw [HNN.out]; omega
        have HBB := Lib.hid hb
        have HK1 := Lib.hid hN1
        obtain ⟨u, hu⟩ : ∃ u, flipL x = u := ⟨_, rfl⟩
        rw [hu] at HFL hfl ⊢
        have HUL : Hid (N = u.length) := Lib.hid (by rw [hfl, HNN.out])
        clear hfl hb hc hN1 hu HT HX
        go_enter Tryd.func19, Tryd.ntmps19
        go_wp2_with (first | (go_at_call 17; refine (q1.out _ HL.out).mono ?_; rintro e w1 ⟨rfl, hk1⟩; obtain ⟨c0, c1, c2, fr⟩ := HBOX.out w1 hk1) | (go_at_call 49; refine (within_any _ _ _ _).mono ?_; rintro e w2 ⟨rfl, rfl⟩))
        have E0 := HBOX.out w1 hk1
        refine wp_region_K (S := fun W => BoxL W w.heap.size (.string ⟨d.toArray⟩) (.string ⟨p.toArray⟩) (.int .i64 n)) (k := 8) (by kernel_rfl) ?_
        have hd := (Chg.refl No w1).drew
        have hS := E0.keep hd
        generalize w1.drew = W1 at hS hd ⊢
        clear c0 c1 c2 fr E0
        refine wpAnyK_take 0 (.pointer (some ⟨w.heap.size, 0, none⟩)) rfl (by kernel_rfl) (fun _ _ _ h => h) hS rfl (by rintro w ⟨c0, c1, c2, fr⟩; go_simp) ?_
        simp only [List.getElem_toArray, List.getElem_cons_zero, Act.put, List.setIfInBounds_toArray, List.set_cons_zero, List.set_cons_succ]
        refine wpAnyK_take 1 (.string ⟨d.toArray⟩) rfl (by kernel_rfl) (fun _ _ _ h => h) hS rfl (by rintro w ⟨c0, c1, c2, fr⟩; go_simp) ?_
        simp only [List.getElem_toArray, List.getElem_cons_succ, List.getElem_cons_zero, Act.put, List.setIfInBounds_toArray, List.set_cons_zero, List.set_cons_succ]
        refine wpAnyK_take 2 (.pointer (some ⟨w.heap.size, 1, none⟩)) rfl (by kernel_rfl) (fun _ _ _ h => h) hS rfl (by rintro w ⟨c0, c1, c2, fr⟩; go_simp) ?_
        simp only [List.getElem_toArray, List.getElem_cons_succ, List.getElem_cons_zero, Act.put, List.setIfInBounds_toArray, List.set_cons_zero, List.set_cons_succ]
        refine wpAnyK_take 3 (.string ⟨p.toArray⟩) rfl (by kernel_rfl) (fun _ _ _ h => h) hS rfl (by rintro w ⟨c0, c1, c2, fr⟩; go_simp) ?_
        simp only [List.getElem_toArray, List.getElem_cons_succ, List.getElem_cons_zero, Act.put, List.setIfInBounds_toArray, List.set_cons_zero, List.set_cons_succ]
        refine wpAnyK_take 4 (.int .i64 (k : Int)) rfl (by kernel_rfl) (fun _ _ _ h => h) hS rfl (by rintro w ⟨c0, c1, c2, fr⟩; go_simp) ?_
        simp only [List.getElem_toArray, List.getElem_cons_succ, List.getElem_cons_zero, Act.put, List.setIfInBounds_toArray, List.set_cons_zero, List.set_cons_succ]
        refine wpAnyK_take 5 (.string ⟨t.toArray⟩) rfl (by kernel_rfl) (fun _ _ _ h => h) hS rfl (by rintro w ⟨c0, c1, c2, fr⟩; go_simp) ?_
        simp only [List.getElem_toArray, List.getElem_cons_succ, List.getElem_cons_zero, Act.put, List.setIfInBounds_toArray, List.set_cons_zero, List.set_cons_succ]
        refine wpAnyK_take 6 (.string ⟨x.toArray⟩) rfl (by kernel_rfl) (fun _ _ _ h => h) hS rfl (by rintro w ⟨c0, c1, c2, fr⟩; go_simp) ?_
        simp only [List.getElem_toArray, List.getElem_cons_succ, List.getElem_cons_zero, Act.put, List.setIfInBounds_toArray, List.set_cons_zero, List.set_cons_succ]
        obtain ⟨cap, W2, hcv, hBY, hk2⟩ := HCV.out W1
        refine wpAnyK_1 7 (by kernel_rfl) (wpOpK' rfl rfl ?_)
        intro K hK
        unfold Oper.wp execOp
        go_simp
        refine hK.out _ _ (hS.keep hk2) ?_
        clear hK K
        simp only [List.setIfInBounds_toArray]
        have kk := (hk1.trans hd).trans hk2
        clear hS hcv
        refine wpAnyK_tail 8 rfl (by kernel_rfl) ?_
        simp only [List.drop_succ_cons, List.drop_zero]
        have hcell := hBY.cell (N - 1) HK1.out
        rw [HBB.out] at hcell
        have hfr := hBY.fr (N - 1) HK1.out
        have hBS := hBY.set (N - 1) HK1.out c
        rw [HFL.out] at hBS
        have hbk := hBS.back N cap HUL.out
        have kst := chg_at W2 W1.heap.size (N - 1) (.int .u8 (c.toNat : Int))
        have hN1 : 1 ≤ N := by omega
        go_wp2_with fail
        go_ret2
        exact ⟨rfl, (k0.trans kk).step kst (fun q hq hl => by have := k0.size; have := hk1.size; have := hd.size; omega)⟩
      · have HX : Hid (crT d p n (k : Int) torn = x) := Lib.hid (by
          rw [HT.out, if_neg, HXX.out]
          intro h
          rw [Bool.and_eq_true, decide_eq_true_eq] at h
          exact hf ⟨h.1, by omega⟩)
        rw [HX.out]
        clear HT HX
        cases torn with
        | false =>
          clear hf
          go_enter Tryd.func19, Tryd.ntmps19
          go_wp2_with (first | (go_at_call 17; refine (q1.out _ HL.out).mono ?_; rintro e w1 ⟨rfl, hk1⟩; obtain ⟨c0, c1, c2, fr⟩ := HBOX.out w1 hk1) | (go_at_call 49; refine (within_any _ _ _ _).mono ?_; rintro e w2 ⟨rfl, rfl⟩))
          have E0 := HBOX.out w1 hk1
          refine wp_region_K (S := fun W => BoxL W w.heap.size (.string ⟨d.toArray⟩) (.string ⟨p.toArray⟩) (.int .i64 n)) (k := 8) (by kernel_rfl) ?_
          have hd := (Chg.refl No w1).drew
          have hS := E0.keep hd
          generalize w1.drew = W1 at hS hd ⊢
          clear c0 c1 c2 fr E0
          refine wpAnyK_take 0 (.pointer (some ⟨w.heap.size, 0, none⟩)) rfl (by kernel_rfl) (fun _ _ _ h => h) hS rfl (by rintro w ⟨c0, c1, c2, fr⟩; go_simp) ?_
          simp only [List.getElem_toArray, List.getElem_cons_zero, Act.put, List.setIfInBounds_toArray, List.set_cons_zero, List.set_cons_succ]
          refine wpAnyK_take 1 (.string ⟨d.toArray⟩) rfl (by kernel_rfl) (fun _ _ _ h => h) hS rfl (by rintro w ⟨c0, c1, c2, fr⟩; go_simp) ?_
          simp only [List.getElem_toArray, List.getElem_cons_succ, List.getElem_cons_zero, Act.put, List.setIfInBounds_toArray, List.set_cons_zero, List.set_cons_succ]
          refine wpAnyK_take 2 (.pointer (some ⟨w.heap.size, 1, none⟩)) rfl (by kernel_rfl) (fun _ _ _ h => h) hS rfl (by rintro w ⟨c0, c1, c2, fr⟩; go_simp) ?_
          simp only [List.getElem_toArray, List.getElem_cons_succ, List.getElem_cons_zero, Act.put, List.setIfInBounds_toArray, List.set_cons_zero, List.set_cons_succ]
          refine wpAnyK_take 3 (.string ⟨p.toArray⟩) rfl (by kernel_rfl) (fun _ _ _ h => h) hS rfl (by rintro w ⟨c0, c1, c2, fr⟩; go_simp) ?_
          simp only [List.getElem_toArray, List.getElem_cons_succ, List.getElem_cons_zero, Act.put, List.setIfInBounds_toArray, List.set_cons_zero, List.set_cons_succ]
          refine wpAnyK_take 4 (.int .i64 (k : Int)) rfl (by kernel_rfl) (fun _ _ _ h => h) hS rfl (by rintro w ⟨c0, c1, c2, fr⟩; go_simp) ?_
          simp only [List.getElem_toArray, List.getElem_cons_succ, List.getElem_cons_zero, Act.put, List.setIfInBounds_toArray, List.set_cons_zero, List.set_cons_succ]
          refine wpAnyK_take 5 (.string ⟨t.toArray⟩) rfl (by kernel_rfl) (fun _ _ _ h => h) hS rfl (by rintro w ⟨c0, c1, c2, fr⟩; go_simp) ?_
          simp only [List.getElem_toArray, List.getElem_cons_succ, List.getElem_cons_zero, Act.put, List.setIfInBounds_toArray, List.set_cons_zero, List.set_cons_succ]
          refine wpAnyK_take 6 (.string ⟨x.toArray⟩) rfl (by kernel_rfl) (fun _ _ _ h => h) hS rfl (by rintro w ⟨c0, c1, c2, fr⟩; go_simp) ?_
          simp only [List.getElem_toArray, List.getElem_cons_succ, List.getElem_cons_zero, Act.put, List.setIfInBounds_toArray, List.set_cons_zero, List.set_cons_succ]
          obtain ⟨cap, W2, hcv, hBY, hk2⟩ := HCV.out W1
          refine wpAnyK_1 7 (by kernel_rfl) (wpOpK' rfl rfl ?_)
          intro K hK
          unfold Oper.wp execOp
          go_simp
          refine hK.out _ _ (hS.keep hk2) ?_
          clear hK K
          simp only [List.setIfInBounds_toArray]
          have kk := (hk1.trans hd).trans hk2
          clear hS hcv
          refine wpAnyK_tail 8 rfl (by kernel_rfl) ?_
          simp only [List.drop_succ_cons, List.drop_zero]
          have hbk := hBY.back N cap HNN.out.symm
          go_wp2_with fail
          go_ret2
          exact ⟨rfl, k0.trans kk⟩
        | true =>
          have hk0 : ¬ (0 < (k : Int)) := fun h => hf ⟨rfl, by omega⟩
          clear hf
          go_enter Tryd.func19, Tryd.ntmps19
          go_wp2_with (first | (go_at_call 17; refine (q1.out _ HL.out).mono ?_; rintro e w1 ⟨rfl, hk1⟩; obtain ⟨c0, c1, c2, fr⟩ := HBOX.out w1 hk1) | (go_at_call 49; refine (within_any _ _ _ _).mono ?_; rintro e w2 ⟨rfl, rfl⟩))
          have E0 := HBOX.out w1 hk1
          refine wp_region_K (S := fun W => BoxL W w.heap.size (.string ⟨d.toArray⟩) (.string ⟨p.toArray⟩) (.int .i64 n)) (k := 8) (by kernel_rfl) ?_
          have hd := (Chg.refl No w1).drew
          have hS := E0.keep hd
          generalize w1.drew = W1 at hS hd ⊢
          clear c0 c1 c2 fr E0
          refine wpAnyK_take 0 (.pointer (some ⟨w.heap.size, 0, none⟩)) rfl (by kernel_rfl) (fun _ _ _ h => h) hS rfl (by rintro w ⟨c0, c1, c2, fr⟩; go_simp) ?_
          simp only [List.getElem_toArray, List.getElem_cons_zero, Act.put, List.setIfInBounds_toArray, List.set_cons_zero, List.set_cons_succ]
          refine wpAnyK_take 1 (.string ⟨d.toArray⟩) rfl (by kernel_rfl) (fun _ _ _ h => h) hS rfl (by rintro w ⟨c0, c1, c2, fr⟩; go_simp) ?_
          simp only [List.getElem_toArray, List.getElem_cons_succ, List.getElem_cons_zero, Act.put, List.setIfInBounds_toArray, List.set_cons_zero, List.set_cons_succ]
          refine wpAnyK_take 2 (.pointer (some ⟨w.heap.size, 1, none⟩)) rfl (by kernel_rfl) (fun _ _ _ h => h) hS rfl (by rintro w ⟨c0, c1, c2, fr⟩; go_simp) ?_
          simp only [List.getElem_toArray, List.getElem_cons_succ, List.getElem_cons_zero, Act.put, List.setIfInBounds_toArray, List.set_cons_zero, List.set_cons_succ]
          refine wpAnyK_take 3 (.string ⟨p.toArray⟩) rfl (by kernel_rfl) (fun _ _ _ h => h) hS rfl (by rintro w ⟨c0, c1, c2, fr⟩; go_simp) ?_
          simp only [List.getElem_toArray, List.getElem_cons_succ, List.getElem_cons_zero, Act.put, List.setIfInBounds_toArray, List.set_cons_zero, List.set_cons_succ]
          refine wpAnyK_take 4 (.int .i64 (k : Int)) rfl (by kernel_rfl) (fun _ _ _ h => h) hS rfl (by rintro w ⟨c0, c1, c2, fr⟩; go_simp) ?_
          simp only [List.getElem_toArray, List.getElem_cons_succ, List.getElem_cons_zero, Act.put, List.setIfInBounds_toArray, List.set_cons_zero, List.set_cons_succ]
          refine wpAnyK_take 5 (.string ⟨t.toArray⟩) rfl (by kernel_rfl) (fun _ _ _ h => h) hS rfl (by rintro w ⟨c0, c1, c2, fr⟩; go_simp) ?_
          simp only [List.getElem_toArray, List.getElem_cons_succ, List.getElem_cons_zero, Act.put, List.setIfInBounds_toArray, List.set_cons_zero, List.set_cons_succ]
          refine wpAnyK_take 6 (.string ⟨x.toArray⟩) rfl (by kernel_rfl) (fun _ _ _ h => h) hS rfl (by rintro w ⟨c0, c1, c2, fr⟩; go_simp) ?_
          simp only [List.getElem_toArray, List.getElem_cons_succ, List.getElem_cons_zero, Act.put, List.setIfInBounds_toArray, List.set_cons_zero, List.set_cons_succ]
          obtain ⟨cap, W2, hcv, hBY, hk2⟩ := HCV.out W1
          refine wpAnyK_1 7 (by kernel_rfl) (wpOpK' rfl rfl ?_)
          intro K hK
          unfold Oper.wp execOp
          go_simp
          refine hK.out _ _ (hS.keep hk2) ?_
          clear hK K
          simp only [List.setIfInBounds_toArray]
          have kk := (hk1.trans hd).trans hk2
          clear hS hcv
          refine wpAnyK_tail 8 rfl (by kernel_rfl) ?_
          simp only [List.drop_succ_cons, List.drop_zero]
          have hbk := hBY.back N cap HNN.out.symm
          go_wp2_with fail
          go_ret2
          exact ⟨rfl, k0.trans kk⟩

set_option maxRecDepth 100000 in
set_option maxHeartbeats 1000000 in
theorem law_CrashLog (d p : List UInt8) (n keep : Int) (torn : Bool) (w : World) (hd : d.length ≤ 9223372036854775807) (hp : p.length ≤ 9223372036854775807) (hw : Lay w) :
    Calls Tryd.prog 5 #[lv d p n, .int .i64 keep, .bool torn] w fun e w' => e = .returned (.bool true) ∧ Chg No w w' := by
  have k0 := (Chg.refl No w).alloc (.cells #[.string ⟨d.toArray⟩, .string ⟨p.toArray⟩, .int .i64 n] 28)
  have bx := BoxL.new w (.string ⟨d.toArray⟩) (.string ⟨p.toArray⟩) (.int .i64 n) 28
  have HBOX : Hid (∀ W, Chg No (w.alloc (.cells #[.string ⟨d.toArray⟩, .string ⟨p.toArray⟩, .int .i64 n] 28)) W → BoxL W w.heap.size (.string ⟨d.toArray⟩) (.string ⟨p.toArray⟩) (.int .i64 n)) := Lib.hid (fun W hW => bx.keep hW)
  obtain ⟨c0, c1, c2, fr⟩ := bx
  have HL := Lib.hid (hw.keep k0)
  clear hw
  by_cases h : (d.length : Int) + (p.length : Int) ≤ 1048576
  · have q0 := Lib.hid (fun W => szLog_fit d p n 1048576 W (by omega) h)
    have q1 := Lib.hid (fun W => toLog_any d p n W)
    have q2 := Lib.hid (fun W => specCrash_any d p n keep torn W (by omega) (by omega))
    have q3 := Lib.hid (fun W hW => implCrash_any d p n keep torn W (by omega) (by omega) hW)
    obtain ⟨b, hb⟩ : ∃ b, crB d p n keep = b := ⟨_, rfl⟩
    obtain ⟨x, hx⟩ : ∃ x, crT d p n keep torn = x := ⟨_, rfl⟩
    rw [hb, hx] at q2 q3
    unfold lv at q0 q1 q2 q3 ⊢
    clear hb hx
    go_enter Tryd.func5, Tryd.ntmps5
    go_wp2_with (first | (go_at_call 14; refine (q0.out _).mono ?_; rintro e w1 ⟨rfl, hk1⟩; obtain ⟨c0, c1, c2, fr⟩ := HBOX.out w1 hk1) | (go_at_call 16; first | (have k5 := hk3; refine (q1.out _).mono ?_; rintro e w4 ⟨rfl, hk4⟩) | (refine (q1.out _).mono ?_; rintro e w2 ⟨rfl, hk2⟩)) | (go_at_call 18; refine (q2.out _).mono ?_; rintro e w3 ⟨rfl, hk3⟩; have kB := hk1.trans (hk2.trans hk3); obtain ⟨c0, c1, c2, fr⟩ := HBOX.out _ kB) | (go_at_call 19; refine (q3.out _ ((HL.out.keep kB).keep hk4)).mono ?_; rintro e w5 ⟨rfl, hk5⟩; have kC := kB.trans (hk4.trans hk5)))
    all_goals go_ret
    all_goals exact ⟨rfl, k0.trans kC⟩
  · have q0 := Lib.hid (fun W => szLog_no d p n 1048576 W (by omega) (by omega) (by omega) hd hp)
    unfold lv at q0 ⊢
    go_enter Tryd.func5, Tryd.ntmps5
    go_wp2_with (go_at_call 14; refine (q0.out _).mono ?_; rintro e w1 ⟨rfl, hk1⟩)
    go_ret
    exact ⟨rfl, k0.trans hk1⟩
end Go.Proofs.YtmnohickmidfkaaDoor
