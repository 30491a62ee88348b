import Derived.Test.YtmnohickmidfkaaDoorYc
/- records: which are valid -/
namespace Go.Proofs.YtmnohickmidfkaaDoor
open Go.RowKit

structure Box2 (w : World) (b : Nat) (v0 v1 : Value) : Prop where
  c0 : w.cell? ⟨b, 0, none⟩ = some v0
  c1 : w.cell? ⟨b, 1, none⟩ = some v1
  fr : ∀ o, w.frozen? ⟨b, o, none⟩ = false
theorem Box2.lt {w : World} {b : Nat} {v0 v1 : Value} (h : Box2 w b v0 v1) : b < w.heap.size := World.block_lt_of_cell? w _ h.c0
theorem Box2.step {S : Nat → Prop} {w w' : World} {b : Nat} {v0 v1 : Value} (h : Box2 w b v0 v1) (hc : Chg S w w') (hS : ¬ S b) : Box2 w' b v0 v1 := by
  have hb := h.lt
  exact ⟨(hc.cellD b 0 hb hS).trans h.c0, (hc.cellD b 1 hb hS).trans h.c1, fun o => (World.frozen?_of_block (hc.block b hb hS)).trans (h.fr o)⟩
theorem Box2.keep {w w' : World} {b : Nat} {v0 v1 : Value} (h : Box2 w b v0 v1) (hc : Chg No w w') : Box2 w' b v0 v1 := h.step hc (fun e => e)
theorem Box2.new (w : World) (v0 v1 : Value) (t : TypeId) : Box2 (w.alloc (.cells #[v0, v1] t)) w.heap.size v0 v1 := by
  refine ⟨?_, ?_, fun o => World.frozen?_alloc_new _ _ _ _⟩ <;> (rw [World.cell?_alloc_new]; rfl)
def sv (l : List UInt8) : Value := .string ⟨l.toArray⟩
/-- a record by value -/
def rv (c r : List UInt8) : Value := .agg #[.string ⟨c.toArray⟩, .string ⟨r.toArray⟩]
theorem recB_eq (c r : List UInt8) : recB c r = (decide (1 ≤ c.length) && (plainB c && decide ((c.length : Int) ≤ 160)) && !hasL 64 c && (plainB r && decide ((r.length : Int) ≤ 200))) := by
  unfold recB plainB hasL
  have e1 : decide ((c.length : Int) ≤ 160) = decide (c.length ≤ 160) := by rw [decide_eq_decide]; omega
  have e2 : decide ((r.length : Int) ≤ 200) = decide (r.length ≤ 200) := by rw [decide_eq_decide]; omega
  rw [e1, e2]
  cases decide (1 ≤ c.length) <;> cases decide (c.length ≤ 160) <;> cases c.all okC <;> cases decide (64 ∈ c) <;> cases decide (r.length ≤ 200) <;> cases r.all okC <;> rfl

set_option maxRecDepth 100000 in
theorem l12Record_any (c r : List UInt8) (w : World) (hc : c.length ≤ 1152921504606846976) (hr : r.length ≤ 1152921504606846976) :
    Calls Tryd.prog 50 #[rv c r] w fun e w' => e = .returned (.bool (recB c r)) ∧ Chg No w w' := by
  have b1 := Lib.hid (fun W => l12Bytes_any ⟨c.toArray⟩ 160 W (by simpa [ByteArray.size] using hc))
  have b2 := Lib.hid (fun W => l1Stands_any ⟨c.toArray⟩ 64 W (by simpa [ByteArray.size] using hc))
  have b3 := Lib.hid (fun W => l12Bytes_any ⟨r.toArray⟩ 200 W (by simpa [ByteArray.size] using hr))
  have e : Hid (recB c r = (decide (1 ≤ c.length) && (plainB c && decide (((⟨c.toArray⟩ : ByteArray).size : Int) ≤ 160)) && !hasL 64 c && (plainB r && decide (((⟨r.toArray⟩ : ByteArray).size : Int) ≤ 200)))) := Lib.hid (recB_eq c r)
  obtain ⟨B1, h1⟩ : ∃ B1, (plainB c && decide (((⟨c.toArray⟩ : ByteArray).size : Int) ≤ 160)) = B1 := ⟨_, rfl⟩
  obtain ⟨B2, h2⟩ : ∃ B2, hasL 64 c = B2 := ⟨_, rfl⟩
  obtain ⟨B3, h3⟩ : ∃ B3, (plainB r && decide (((⟨r.toArray⟩ : ByteArray).size : Int) ≤ 200)) = B3 := ⟨_, rfl⟩
  have b1 : Hid (∀ W, Calls Tryd.prog 69 #[.string ⟨c.toArray⟩, .int .i64 160] W fun e w' => e = .returned (.bool B1) ∧ w' = W) := Lib.hid (fun W => by rw [← h1]; exact b1.out W)
  have b2 : Hid (∀ W, Calls Tryd.prog 70 #[.string ⟨c.toArray⟩, .int .u8 64] W fun e w' => e = .returned (.bool B2) ∧ w' = W) := Lib.hid (fun W => by rw [← h2]; exact b2.out W)
  have b3 : Hid (∀ W, Calls Tryd.prog 69 #[.string ⟨r.toArray⟩, .int .i64 200] W fun e w' => e = .returned (.bool B3) ∧ w' = W) := Lib.hid (fun W => by rw [← h3]; exact b3.out W)
  rw [h1, h2, h3] at e
  clear h1 h2 h3 hr
  unfold rv
  cases c with
  | nil =>
    have HR : Hid (recB [] r = false) := Lib.hid (by rw [e.out]; rfl)
    clear e
    go_enter Tryd.func50, Tryd.ntmps50
    go_wp2_with fail
    go_ret
    exact ⟨ret_bool HR.out.symm, (Chg.refl No w).alloc _⟩
  | cons x c =>
    obtain ⟨C, hC⟩ : ∃ C, C = x :: c := ⟨_, rfl⟩
    have hne : (C == []) = false := by rw [hC]; rfl
    have HR : Hid (recB C r = (B1 && !B2 && B3)) := Lib.hid (by rw [hC, e.out]; simp)
    rw [← hC] at b1 b2 ⊢
    clear e hC hc
    have k0 := (Chg.refl No w).alloc (.cells #[.string ⟨C.toArray⟩, .string ⟨r.toArray⟩] 43)
    have bx := Box2.new w (.string ⟨C.toArray⟩) (.string ⟨r.toArray⟩) 43
    obtain ⟨c0, c1, fr⟩ := bx
    cases B1 <;> cases B2 <;> cases B3
    all_goals
      go_enter Tryd.func50, Tryd.ntmps50
      go_wp2_with (first | (go_at_call 69; first | (with_reducible refine (b1.out _).mono ?_; rintro e w' ⟨rfl, rfl⟩) | (with_reducible refine (b3.out _).mono ?_; rintro e w' ⟨rfl, rfl⟩)) | (go_at_call 70; refine (b2.out _).mono ?_; rintro e w' ⟨rfl, rfl⟩))
      go_ret
      exact ⟨ret_bool HR.out.symm, k0⟩

def cmdB (c : List UInt8) : Bool := inB (c.length : Int) 1 160 && plainB c && !hasL 64 c
theorem recB_cmd (c r : List UInt8) : recB c r = (cmdB c && decide ((r.length : Int) ≤ 200) && plainB r) := by
  rw [recB_eq, cmdB, inB]
  have e : decide ((1 : Int) ≤ (c.length : Int)) = decide (1 ≤ c.length) := by rw [decide_eq_decide]; omega
  rw [e]
  cases decide (1 ≤ c.length) <;> cases decide ((c.length : Int) ≤ 160) <;> cases plainB c <;> cases hasL 64 c <;> cases decide ((r.length : Int) ≤ 200) <;> cases plainB r <;> rfl
set_option maxRecDepth 100000 in
theorem isCommand_any (c : List UInt8) (w : World) (hc : c.length ≤ 1152921504606846976) (hw : Lay w) :
    Calls Tryd.prog 60 #[.string ⟨c.toArray⟩] w fun e w' => e = .returned (.bool (cmdB c)) ∧ w' = w := by
  obtain ⟨mx, hmx⟩ := hw.max
  clear hw
  have b1 := Lib.hid (fun W => isPlain_any ⟨c.toArray⟩ W (by simpa [ByteArray.size] using hc))
  cases g1 : inB (c.length : Int) 1 160 with
  | false =>
    have HR : Hid (cmdB c = false) := Lib.hid (by simp [cmdB, g1])
    go_enter Tryd.func60, Tryd.ntmps60
    go_wp2_with (go_at_call 49; refine (within_any _ _ _ _).mono ?_; rintro e w' ⟨rfl, rfl⟩)
    all_goals go_ret
    all_goals exact ⟨ret_bool HR.out.symm, rfl⟩
  | true =>
    have hlen := inB_iff.1 g1
    have b2 : Hid (∀ W, W.cell? ⟨0, 0, none⟩ = some (.int .i64 mx) → Calls Tryd.prog 77 #[.string ⟨c.toArray⟩, .string ⟨#[64]⟩] W fun e w' => e = .returned (.bool (hasL 64 c)) ∧ w' = W) := Lib.hid (fun W hW => by
      refine (Tryd.strings_Contains ⟨c.toArray⟩ ⟨#[64]⟩ mx W (by simp [ByteArray.size]; omega) hW).mono ?_
      rintro e w' ⟨rfl, rfl⟩
      exact ⟨ret_bool (contains_one 64 c), rfl⟩)
    have HR : Hid (cmdB c = (plainB c && !hasL 64 c)) := Lib.hid (by rw [cmdB, g1]; rfl)
    obtain ⟨B1, h1⟩ : ∃ B1, plainB c = B1 := ⟨_, rfl⟩
    obtain ⟨B2, h2⟩ : ∃ B2, hasL 64 c = B2 := ⟨_, rfl⟩
    have b1 : Hid (∀ W, Calls Tryd.prog 61 #[.string ⟨c.toArray⟩] W fun e w' => e = .returned (.bool B1) ∧ w' = W) := Lib.hid (fun W => by rw [← h1]; exact b1.out W)
    rw [h1, h2] at HR
    rw [h2] at b2
    clear h1 h2
    cases B1 <;> cases B2
    all_goals
      go_enter Tryd.func60, Tryd.ntmps60
      go_wp2_with (first | (go_at_call 49; refine (within_any _ _ _ _).mono ?_; rintro e w' ⟨rfl, rfl⟩) | (go_at_call 61; refine (b1.out _).mono ?_; rintro e w' ⟨rfl, rfl⟩) | (go_at_call 77; refine (b2.out _ hmx).mono ?_; rintro e w' ⟨rfl, rfl⟩))
      go_ret
      exact ⟨ret_bool HR.out.symm, rfl⟩

set_option maxRecDepth 100000 in
theorem IsValidRecord_any (c r : List UInt8) (w : World) (hc : c.length ≤ 1152921504606846976) (hr : r.length ≤ 1152921504606846976) (hw : Lay w) :
    Calls Tryd.prog 39 #[rv c r] w fun e w' => e = .returned (.bool (recB c r)) ∧ Chg No w w' := by
  have b1 := Lib.hid (fun W hW => isCommand_any c W hc hW)
  have b3 := Lib.hid (fun W => isPlain_any ⟨r.toArray⟩ W (by simpa [ByteArray.size] using hr))
  have k0 := (Chg.refl No w).alloc (.cells #[.string ⟨c.toArray⟩, .string ⟨r.toArray⟩] 43)
  have HL := Lib.hid (hw.keep k0)
  have HR := Lib.hid (recB_cmd c r)
  obtain ⟨B1, h1⟩ : ∃ B1, cmdB c = B1 := ⟨_, rfl⟩
  obtain ⟨B3, h3⟩ : ∃ B3, plainB r = B3 := ⟨_, rfl⟩
  have b3 : Hid (∀ W, Calls Tryd.prog 61 #[.string ⟨r.toArray⟩] W fun e w' => e = .returned (.bool B3) ∧ w' = W) := Lib.hid (fun W => by rw [← h3]; exact b3.out W)
  rw [h1] at b1
  rw [h1, h3] at HR
  clear h1 h3 hw
  unfold rv
  obtain ⟨c0, c1, fr⟩ := Box2.new w (.string ⟨c.toArray⟩) (.string ⟨r.toArray⟩) 43
  by_cases g2 : (r.length : Int) ≤ 200
  · have HR : Hid (recB c r = (B1 && B3)) := Lib.hid (by rw [HR.out]; simp [g2])
    cases B1 <;> cases B3
    all_goals
      go_enter Tryd.func39, Tryd.ntmps39
      go_wp2_with (first | (go_at_call 60; refine (b1.out _ HL.out).mono ?_; rintro e w' ⟨rfl, rfl⟩) | (go_at_call 61; refine (b3.out _).mono ?_; rintro e w' ⟨rfl, rfl⟩))
      go_ret
      exact ⟨ret_bool HR.out.symm, k0⟩
  · have HR2 : Hid (recB c r = false) := Lib.hid (by rw [HR.out]; simp [g2])
    clear HR
    have g2' : (200 : Int) < (r.length : Int) := by omega
    cases B1
    all_goals
      go_enter Tryd.func39, Tryd.ntmps39
      go_wp2_with (first | (go_at_call 60; refine (b1.out _ HL.out).mono ?_; rintro e w' ⟨rfl, rfl⟩) | (go_at_call 61; refine (b3.out _).mono ?_; rintro e w' ⟨rfl, rfl⟩))
      go_ret
      exact ⟨ret_bool HR2.out.symm, k0⟩

end Go.Proofs.YtmnohickmidfkaaDoor
