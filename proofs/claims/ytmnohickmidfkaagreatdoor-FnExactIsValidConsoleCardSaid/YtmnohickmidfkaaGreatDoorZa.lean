import Derived.Test.YtmnohickmidfkaaGreatDoorTj
import Derived.Test.YtmnohickmidfkaaGreatDoorLg
/- consoles: copied, compared, measured; which are valid -/
namespace Go.Proofs.YtmnohickmidfkaaGreatDoor
open Go.RowKit

/-- a Console in a box -/
structure Box6 (w : World) (b : Nat) (v0 v1 v2 v3 v4 v5 : Value) : Prop where
  c0 : w.cell? ⟨b, 0, none⟩ = some v0
  c1 : w.cell? ⟨b, 1, none⟩ = some v1
  c2 : w.cell? ⟨b, 2, none⟩ = some v2
  c3 : w.cell? ⟨b, 3, none⟩ = some v3
  c4 : w.cell? ⟨b, 4, none⟩ = some v4
  c5 : w.cell? ⟨b, 5, none⟩ = some v5
  fr : ∀ o, w.frozen? ⟨b, o, none⟩ = false
theorem Box6.lt {w : World} {b : Nat} {v0 v1 v2 v3 v4 v5 : Value} (h : Box6 w b v0 v1 v2 v3 v4 v5) : b < w.heap.size := World.block_lt_of_cell? w _ h.c0
theorem Box6.step {S : Nat → Prop} {w w' : World} {b : Nat} {v0 v1 v2 v3 v4 v5 : Value} (h : Box6 w b v0 v1 v2 v3 v4 v5) (hc : Chg S w w') (hS : ¬ S b) : Box6 w' b v0 v1 v2 v3 v4 v5 := by
  have hb := h.lt
  exact ⟨(hc.cellD b 0 hb hS).trans h.c0, (hc.cellD b 1 hb hS).trans h.c1, (hc.cellD b 2 hb hS).trans h.c2, (hc.cellD b 3 hb hS).trans h.c3, (hc.cellD b 4 hb hS).trans h.c4, (hc.cellD b 5 hb hS).trans h.c5, fun o => (World.frozen?_of_block (hc.block b hb hS)).trans (h.fr o)⟩
theorem Box6.keep {w w' : World} {b : Nat} {v0 v1 v2 v3 v4 v5 : Value} (h : Box6 w b v0 v1 v2 v3 v4 v5) (hc : Chg No w w') : Box6 w' b v0 v1 v2 v3 v4 v5 := h.step hc (fun e => e)
theorem Box6.new (w : World) (v0 v1 v2 v3 v4 v5 : Value) (t : TypeId) : Box6 (w.alloc (.cells #[v0, v1, v2, v3, v4, v5] t)) w.heap.size v0 v1 v2 v3 v4 v5 := by
  refine ⟨?_, ?_, ?_, ?_, ?_, ?_, fun o => World.frozen?_alloc_new _ _ _ _⟩ <;> (rw [World.cell?_alloc_new]; rfl)
theorem Box6.put012 {w : World} {b : Nat} {v0 v1 v2 v3 v4 v5 : Value} (h : Box6 w b v0 v1 v2 v3 v4 v5) (x0 x1 x2 : Value) : Box6 (((w.setCell ⟨b, 0, none⟩ x0).setCell ⟨b, 1, none⟩ x1).setCell ⟨b, 2, none⟩ x2) b x0 x1 x2 v3 v4 v5 := by
  obtain ⟨c0, c1, c2, c3, c4, c5, fr⟩ := h
  refine ⟨?_, ?_, ?_, ?_, ?_, ?_, fun o => ?_⟩ <;> go_simp
theorem Box6.put345 {w : World} {b : Nat} {v0 v1 v2 v3 v4 v5 : Value} (h : Box6 w b v0 v1 v2 v3 v4 v5) (x0 x1 x2 : Value) : Box6 (((w.setCell ⟨b, 3, none⟩ x0).setCell ⟨b, 4, none⟩ x1).setCell ⟨b, 5, none⟩ x2) b v0 v1 v2 x0 x1 x2 := by
  obtain ⟨c0, c1, c2, c3, c4, c5, fr⟩ := h
  refine ⟨?_, ?_, ?_, ?_, ?_, ?_, fun o => ?_⟩ <;> go_simp
theorem Chg.putAt {S : Nat → Prop} {w0 wr : World} (h : Chg S w0 wr) {b : Nat} (i j k : Nat) (hb : b < w0.heap.size → S b) (x0 x1 x2 : Value) : Chg S w0 (((wr.setCell ⟨b, i, none⟩ x0).setCell ⟨b, j, none⟩ x1).setCell ⟨b, k, none⟩ x2) :=
  ((h.setCell (p := ⟨b, i, none⟩) hb x0).setCell (p := ⟨b, j, none⟩) hb x1).setCell (p := ⟨b, k, none⟩) hb x2
/-- a Console by value -/
def RCon (w : World) (v : Value) (t : To) (d p : List UInt8) (n : Int) : Prop := ∃ pv rv, v = .agg #[.int .i64 t.items, pv, rv, .string ⟨d.toArray⟩, .string ⟨p.toArray⟩, .int .i64 n] ∧ RPS No w pv t.ps ∧ RI No w rv t.reqs
theorem RCon.keep {w w' : World} {v : Value} {t : To} {d p : List UInt8} {n : Int} (h : RCon w v t d p n) (hc : Chg No w w') : RCon w' v t d p n := by
  obtain ⟨pv, rv, rfl, h1, h2⟩ := h
  exact ⟨pv, rv, rfl, h1.keep hc, h2.keep hc⟩

def conB (t : To) (d p : List UInt8) (n : Int) : Bool := tourB t && validB d p n
set_option maxRecDepth 100000 in
set_option maxHeartbeats 1000000 in
theorem specConsole_any (v : Value) (t : To) (d p : List UInt8) (n : Int) (w : World) (h : RCon w v t d p n) (hd : d.length ≤ 1048576) (hp : p.length ≤ 1048576) :
    Calls Tryz.prog 5 #[v] w fun e w' => e = .returned (.bool (conB t d p n)) ∧ Chg No w w' := by
  have q2 := Lib.hid (fun W => l12Valid_any d p n W hd hp)
  unfold lv at q2
  obtain ⟨pv, rv, rfl, hps, hrq⟩ := h
  obtain ⟨pa, pn, pc, rfl⟩ := hps.shape
  obtain ⟨ra, rn, rc, rfl⟩ := hrq.shape
  have k0 := (Chg.refl No w).alloc (.cells #[.int .i64 t.items, .slice pa pn pc, .slice ra rn rc, .string ⟨d.toArray⟩, .string ⟨p.toArray⟩, .int .i64 n] 37)
  have bx := Box6.new w (.int .i64 t.items) (.slice pa pn pc) (.slice ra rn rc) (.string ⟨d.toArray⟩) (.string ⟨p.toArray⟩) (.int .i64 n) 37
  have HBOX : Hid (∀ W, Chg No (w.alloc (.cells #[.int .i64 t.items, .slice pa pn pc, .slice ra rn rc, .string ⟨d.toArray⟩, .string ⟨p.toArray⟩, .int .i64 n] 37)) W → Box6 W w.heap.size (.int .i64 t.items) (.slice pa pn pc) (.slice ra rn rc) (.string ⟨d.toArray⟩) (.string ⟨p.toArray⟩) (.int .i64 n)) := Lib.hid (fun W hW => bx.keep hW)
  have hT : RT No w (.agg #[.int .i64 t.items, .slice pa pn pc, .slice ra rn rc]) t := ⟨_, _, rfl, hps, hrq⟩
  have HT := Lib.hid (hT.keep k0)
  obtain ⟨c0, c1, c2, c3, c4, c5, fr⟩ := bx
  clear hT
  have q1 := Lib.hid (fun W hW => l12Tour_any _ t W (HT.out.keep hW))
  have HR : Hid (conB t d p n = (tourB t && validB d p n)) := Lib.hid rfl
  obtain ⟨b1, hb1⟩ : ∃ b, tourB t = b := ⟨_, rfl⟩
  obtain ⟨b2, hb2⟩ : ∃ b, validB d p n = b := ⟨_, rfl⟩
  rw [hb1] at q1 HR
  rw [hb2] at q2 HR
  clear hb1 hb2
  cases b1 with
  | false =>
    go_enter Tryz.func5, Tryz.ntmps5
    go_wp2_with (go_at_call 11; refine (q1.out _ (Chg.refl _ _)).mono ?_; rintro e w1 ⟨_, rfl, rfl, hk1⟩; obtain ⟨c0, c1, c2, c3, c4, c5, fr⟩ := HBOX.out w1 hk1)
    go_ret
    exact ⟨ret_bool (by rw [HR.out]; rfl), k0.trans hk1⟩
  | true =>
    go_enter Tryz.func5, Tryz.ntmps5
    go_wp2_with (first | (go_at_call 11; refine (q1.out _ (Chg.refl _ _)).mono ?_; rintro e w1 ⟨_, rfl, rfl, hk1⟩; obtain ⟨c0, c1, c2, c3, c4, c5, fr⟩ := HBOX.out w1 hk1) | (go_at_call 12; refine (q2.out _).mono ?_; rintro e w2 ⟨rfl, hk2⟩))
    go_ret
    exact ⟨ret_bool (by rw [HR.out]; rfl), k0.trans (hk1.trans hk2)⟩
set_option maxRecDepth 100000 in
set_option maxHeartbeats 1000000 in
theorem implConsole_any (v : Value) (t : To) (d p : List UInt8) (n : Int) (w : World) (h : RCon w v t d p n) (hd : d.length ≤ 1048576) (hp : p.length ≤ 1048576) (hw : Lay w) :
    Calls Tryz.prog 7 #[v] w fun e w' => e = .returned (.bool (conB t d p n)) ∧ Chg No w w' := by
  have q2 := Lib.hid (fun W hW => implValid_any d p n W hd hp hW)
  unfold lv at q2
  obtain ⟨pv, rv, rfl, hps, hrq⟩ := h
  obtain ⟨pa, pn, pc, rfl⟩ := hps.shape
  obtain ⟨ra, rn, rc, rfl⟩ := hrq.shape
  have k0 := (Chg.refl No w).alloc (.cells #[.int .i64 t.items, .slice pa pn pc, .slice ra rn rc, .string ⟨d.toArray⟩, .string ⟨p.toArray⟩, .int .i64 n] 37)
  have bx := Box6.new w (.int .i64 t.items) (.slice pa pn pc) (.slice ra rn rc) (.string ⟨d.toArray⟩) (.string ⟨p.toArray⟩) (.int .i64 n) 37
  have HBOX : Hid (∀ W, Chg No (w.alloc (.cells #[.int .i64 t.items, .slice pa pn pc, .slice ra rn rc, .string ⟨d.toArray⟩, .string ⟨p.toArray⟩, .int .i64 n] 37)) W → Box6 W w.heap.size (.int .i64 t.items) (.slice pa pn pc) (.slice ra rn rc) (.string ⟨d.toArray⟩) (.string ⟨p.toArray⟩) (.int .i64 n)) := Lib.hid (fun W hW => bx.keep hW)
  have hT : RT No w (.agg #[.int .i64 t.items, .slice pa pn pc, .slice ra rn rc]) t := ⟨_, _, rfl, hps, hrq⟩
  have HT := Lib.hid (hT.keep k0)
  obtain ⟨c0, c1, c2, c3, c4, c5, fr⟩ := bx
  clear hT
  have HL := Lib.hid (hw.keep k0)
  clear hw
  have q1 := Lib.hid (fun W hW => IsTournament_any _ t W (HT.out.keep hW))
  have HR : Hid (conB t d p n = (tourB t && validB d p n)) := Lib.hid rfl
  obtain ⟨b1, hb1⟩ : ∃ b, tourB t = b := ⟨_, rfl⟩
  obtain ⟨b2, hb2⟩ : ∃ b, validB d p n = b := ⟨_, rfl⟩
  rw [hb1] at q1 HR
  rw [hb2] at q2 HR
  clear hb1 hb2
  cases b1 with
  | false =>
    go_enter Tryz.func7, Tryz.ntmps7
    go_wp2_with (go_at_call 15; refine (q1.out _ (Chg.refl _ _)).mono ?_; rintro e w1 ⟨_, rfl, rfl, hk1⟩; obtain ⟨c0, c1, c2, c3, c4, c5, fr⟩ := HBOX.out w1 hk1)
    go_ret
    exact ⟨ret_bool (by rw [HR.out]; rfl), k0.trans hk1⟩
  | true =>
    go_enter Tryz.func7, Tryz.ntmps7
    go_wp2_with (first | (go_at_call 15; refine (q1.out _ (Chg.refl _ _)).mono ?_; rintro e w1 ⟨_, rfl, rfl, hk1⟩; obtain ⟨c0, c1, c2, c3, c4, c5, fr⟩ := HBOX.out w1 hk1) | (go_at_call 16; refine (q2.out _ (HL.out.keep hk1)).mono ?_; rintro e w2 ⟨rfl, hk2⟩))
    go_ret
    exact ⟨ret_bool (by rw [HR.out]; rfl), k0.trans (hk1.trans hk2)⟩

set_option maxRecDepth 100000 in
set_option maxHeartbeats 1000000 in
theorem eqConsole_same (v v' : Value) (t : To) (d p : List UInt8) (n : Int) (w : World) (h : RCon w v t d p n) (h' : RCon w v' t d p n) :
    Calls Tryz.prog 8 #[v, v'] w fun e w' => e = .returned (.bool true) ∧ Chg No w w' := by
  have q2 := Lib.hid (fun W => eqLog_same d p n W)
  unfold lv at q2
  obtain ⟨pv, rv, rfl, hps, hrq⟩ := h
  obtain ⟨pa, pn, pc, rfl⟩ := hps.shape
  obtain ⟨ra, rn, rc, rfl⟩ := hrq.shape
  obtain ⟨pv', rv', rfl, hps', hrq'⟩ := h'
  obtain ⟨pa', pn', pc', rfl⟩ := hps'.shape
  obtain ⟨ra', rn', rc', rfl⟩ := hrq'.shape
  have hT : RT No w (.agg #[.int .i64 t.items, .slice pa pn pc, .slice ra rn rc]) t := ⟨_, _, rfl, hps, hrq⟩
  have hT' : RT No w (.agg #[.int .i64 t.items, .slice pa' pn' pc', .slice ra' rn' rc']) t := ⟨_, _, rfl, hps', hrq'⟩
  have k0 := ((Chg.refl No w).alloc (.cells #[.int .i64 t.items, .slice pa pn pc, .slice ra rn rc, .string ⟨d.toArray⟩, .string ⟨p.toArray⟩, .int .i64 n] 37)).alloc (.cells #[.int .i64 t.items, .slice pa' pn' pc', .slice ra' rn' rc', .string ⟨d.toArray⟩, .string ⟨p.toArray⟩, .int .i64 n] 37)
  have b0 := (Box6.new w (.int .i64 t.items) (.slice pa pn pc) (.slice ra rn rc) (.string ⟨d.toArray⟩) (.string ⟨p.toArray⟩) (.int .i64 n) 37).keep ((Chg.refl No _).alloc (.cells #[.int .i64 t.items, .slice pa' pn' pc', .slice ra' rn' rc', .string ⟨d.toArray⟩, .string ⟨p.toArray⟩, .int .i64 n] 37))
  have b1 := Box6.new (w.alloc (.cells #[.int .i64 t.items, .slice pa pn pc, .slice ra rn rc, .string ⟨d.toArray⟩, .string ⟨p.toArray⟩, .int .i64 n] 37)) (.int .i64 t.items) (.slice pa' pn' pc') (.slice ra' rn' rc') (.string ⟨d.toArray⟩) (.string ⟨p.toArray⟩) (.int .i64 n) 37
  rw [World.size_alloc] at b1
  have HB := Lib.hid (And.intro b0 b1)
  have q1 := Lib.hid (eqTournament_same _ _ t _ (hT.keep k0) (hT'.keep k0))
  obtain ⟨c0, c1, c2, c3, c4, c5, fr⟩ := b0
  obtain ⟨d0, d1, d2, d3, d4, d5, fd⟩ := b1
  clear hT hT' hps hrq hps' hrq'
  go_enter Tryz.func8, Tryz.ntmps8
  go_wp2_with (first | (go_at_call 17; refine (q1.out).mono ?_; rintro e w1 ⟨_, rfl, rfl, hk1⟩; obtain ⟨c0, c1, c2, c3, c4, c5, fr⟩ := HB.out.1.keep hk1; obtain ⟨d0, d1, d2, d3, d4, d5, fd⟩ := HB.out.2.keep hk1) | (go_at_call 18; refine (q2.out _).mono ?_; rintro e w2 ⟨rfl, hk2⟩))
  go_ret
  exact ⟨rfl, k0.trans (hk1.trans hk2)⟩

def szCo (m : Nat) (f : Nat → Nat) (rn : Nat) (d p : List UInt8) (left : Int) : Int :=
  if szTo m f rn left < 0 then -1 else if (d.length : Int) + (p.length : Int) ≤ szTo m f rn left then szTo m f rn left - d.length - p.length else -1
theorem szTo_le (m : Nat) (f : Nat → Nat) (rn : Nat) (left : Int) (h : left ≤ 1048576) : szTo m f rn left ≤ 1048576 := by
  unfold szTo
  split
  · omega
  · omega
set_option maxRecDepth 100000 in
set_option maxHeartbeats 1000000 in
theorem szConsole_any (it : Int) (v : Value) (m : Nat) (pn mn : Nat → Nat) (ra : Option Addr) (rn rc : Nat) (d p : List UInt8) (n : Int) (w : World) (h : RawPS w v m pn mn) (hrn : rn ≤ 9223372036854775807) (hd : d.length ≤ 9223372036854775807) (hp : p.length ≤ 9223372036854775807) :
    Calls Tryz.prog 4 #[.agg #[.int .i64 it, v, .slice ra rn rc, .string ⟨d.toArray⟩, .string ⟨p.toArray⟩, .int .i64 n], .int .i64 1048576] w fun e w' => e = .returned (.int .i64 (szCo m (fun i => pn i + mn i) rn d p 1048576)) ∧ Chg No w w' := by
  obtain ⟨pa, pc, rfl, hpc, hpc2, _⟩ := id h
  have k0 := (Chg.refl No w).alloc (.cells #[.int .i64 it, .slice pa m pc, .slice ra rn rc, .string ⟨d.toArray⟩, .string ⟨p.toArray⟩, .int .i64 n] 29)
  have bx := Box6.new w (.int .i64 it) (.slice pa m pc) (.slice ra rn rc) (.string ⟨d.toArray⟩) (.string ⟨p.toArray⟩) (.int .i64 n) 29
  have HBOX := Lib.hid bx
  have q1 := Lib.hid (szTournament_any it _ m pn mn ra rn rc 1048576 _ (h.keep k0) hrn (by omega) (by omega))
  have HS : Hid (szCo m (fun i => pn i + mn i) rn d p 1048576 = szCo m (fun i => pn i + mn i) rn d p 1048576) := Lib.hid rfl
  unfold szCo at HS
  have hle := szTo_le m (fun i => pn i + mn i) rn 1048576 (by omega)
  obtain ⟨f, hf⟩ : ∃ f, szCo m (fun i => pn i + mn i) rn d p 1048576 = f := ⟨_, rfl⟩
  have HF : Hid (f = if szTo m (fun i => pn i + mn i) rn 1048576 < 0 then -1 else if (d.length : Int) + (p.length : Int) ≤ szTo m (fun i => pn i + mn i) rn 1048576 then szTo m (fun i => pn i + mn i) rn 1048576 - d.length - p.length else -1) := Lib.hid (by rw [← hf]; rfl)
  rw [hf]
  obtain ⟨L, hL⟩ : ∃ L, szTo m (fun i => pn i + mn i) rn 1048576 = L := ⟨_, rfl⟩
  rw [hL] at q1 HF hle
  clear HS hf hL h
  obtain ⟨c0, c1, c2, c3, c4, c5, fr⟩ := bx
  by_cases h1 : L < 0
  · have HE : Hid (f = -1) := Lib.hid (by rw [HF.out, if_pos h1])
    rw [HE.out]
    go_enter Tryz.func4, Tryz.ntmps4
    go_wp2_with (go_at_call 9; refine (q1.out).mono ?_; rintro e w1 ⟨_, rfl, rfl, hk1⟩; obtain ⟨c0, c1, c2, c3, c4, c5, fr⟩ := HBOX.out.keep hk1)
    go_ret
    exact ⟨rfl, k0.trans hk1⟩
  · by_cases h2 : (d.length : Int) + (p.length : Int) ≤ L
    · have HE : Hid (f = L - d.length - p.length) := Lib.hid (by rw [HF.out, if_neg h1, if_pos h2])
      rw [HE.out]
      have q2 := Lib.hid (fun W => szLog_fit d p n L W hle h2)
      unfold lv at q2
      have h3 : ¬ (L - (d.length : Int) - (p.length : Int) < 0) := by omega
      go_enter Tryz.func4, Tryz.ntmps4
      go_wp2_with (first | (go_at_call 9; refine (q1.out).mono ?_; rintro e w1 ⟨_, rfl, rfl, hk1⟩; obtain ⟨c0, c1, c2, c3, c4, c5, fr⟩ := HBOX.out.keep hk1) | (go_at_call 10; refine (q2.out _).mono ?_; rintro e w2 ⟨rfl, hk2⟩))
      go_ret
      exact ⟨rfl, k0.trans (hk1.trans hk2)⟩
    · have HE : Hid (f = -1) := Lib.hid (by rw [HF.out, if_neg h1, if_neg h2])
      rw [HE.out]
      have q2 := Lib.hid (fun W => szLog_no d p n L W (by omega) hle (by omega) hd hp)
      unfold lv at q2
      go_enter Tryz.func4, Tryz.ntmps4
      go_wp2_with (first | (go_at_call 9; refine (q1.out).mono ?_; rintro e w1 ⟨_, rfl, rfl, hk1⟩; obtain ⟨c0, c1, c2, c3, c4, c5, fr⟩ := HBOX.out.keep hk1) | (go_at_call 10; refine (q2.out _).mono ?_; rintro e w2 ⟨rfl, hk2⟩))
      go_ret
      exact ⟨rfl, k0.trans (hk1.trans hk2)⟩
end Go.Proofs.YtmnohickmidfkaaGreatDoor
