import Derived.Test.YtccmocbkpanibaaPk1
import Derived.Test.YtccmocbkpanibaaPk4
import Derived.Test.YtccmocbkpanibaaBase
import Derived.WalkKit
import Derived.ProofKit
import Derived.OpenShut
import Derived.ShutString
import Derived.ChangeOld
import Derived.Below
import Derived.ChangeSlices
import Derived.Test.YtccmocbkpanibaaL
/- the draws' cursor and choices, codes (for seats without logs: as XWa..XWf) -/
namespace Go.Proofs.Ytccmocbkpanibaa
open Go.RowKit

theorem RF.lit {A : Nat → Prop} (W : World) (cs : Array Value) (n : Nat) (T : TypeId) (hn : n = cs.size) (hA : ¬ A W.heap.size) (hb : cs.size ≤ 1000) : RF A (W.alloc (.cells cs T)) (.slice (some ⟨W.heap.size, 0, none⟩) n n) 1 n cs.toList := by
  subst hn
  refine ⟨_, _, rfl, Nat.le_refl _, by omega, by simp, by simp, fun _ => ⟨W.heap.size, 0, rfl, hA, by rw [World.size_alloc]; omega, fun i hi => ?_⟩⟩
  rw [World.cell?_alloc_new]
  have hi' : i < cs.size := by simpa using hi
  simp [List.getD_eq_getElem?_getD, hi']
theorem elBytes : El 22 5 (.int .u8 0) 1 1 := El.mk' Try.underlying22 (by kernel_rfl) rfl (by decide)
theorem ocallE {o : Oper} {a : Act} {K : Act → World → Prop} {Q : Exit → Act → World → Prop} {w : World} {f : FuncId} {args : Array Value} {φ : Value → World → Prop}
    (ho : (execOp a.eval o).run Try.prog w = .ok (.enter f args) w) (h : Calls Try.prog f args w fun e w' => ∃ v, e = .returned v ∧ φ v w') (hk : ∀ v w', φ v w' → K (a.put o.dst v) w') : Oper.wp Try.prog o a w K Q := by
  unfold Oper.wp
  rw [ho]
  refine h.mono (fun e w' hr => ?_)
  obtain ⟨v, rfl, hp⟩ := hr
  exact hk v w' hp
theorem wpOpKk {P : Program} {ops : Array Oper} {Q : Exit → Act → World → Prop} {md : Region.Mode} {S : World → Prop} {k i f : Nat} {o : Oper} {listed : Array Bool} {a : Act} {w : World} (ho : ops[i]? = some o) (hg : o.guard = none) (hk : (listed.setIfInBounds i true).getD k true = true)
    (h : ∀ K : Act → World → Prop, Hid (∀ a' w', wpAnyK P md ops Q S k f (listed.setIfInBounds i true) a' w' → K a' w') → Oper.wp P o a w K Q) :
    wpOp P ops Q i (fun a' w' => ((listed.setIfInBounds i true).getD k true = false → S w') ∧ wpAnyK P md ops Q S k f (listed.setIfInBounds i true) a' w') a w := by
  unfold wpOp
  rw [ho]
  show if Region.wanted o (yielded ops a.tmps) = true then _ else _
  rw [if_pos (by simp [Region.wanted, hg])]
  exact .inl (h _ (Lib.hid (fun a' w' h1 => ⟨fun h0 => by (rw [hk] at h0; cases h0), h1⟩)))
theorem RF.from {A : Nat → Prop} {w : World} {a : Option Addr} {n cap sz : Nat} {cs : List Value} (T : TypeId) (hu : Try.prog.underlying T = some (.slice (Try.prog.elem T))) (hz : ∀ w, (sizeOf (Try.prog.elem T)).run Try.prog w = .ok sz w) (h : RF A w (.slice a n cap) sz n cs) (i : Nat) (hi : i ≤ n) :
    ∃ a' c', (∀ w' : World, (Instr.slice T (.slice a n cap) (some (.int .i64 (i : Int))) none none).run Try.prog w' = .ok (.slice a' (n - i) c') w') ∧ RF A w (.slice a' (n - i) c') sz (n - i) (cs.drop (i * sz)) := by
  obtain ⟨a0, cap0, he, h1, h2, h3, h0, h4⟩ := h
  simp only [Value.slice.injEq, true_and] at he
  obtain ⟨rfl, rfl⟩ := he
  refine ⟨if cap = i then a else a.map (·.add (i * sz)), cap - i, fun w' => ?_, ?_⟩
  · rw [run_slice_l w' T a n cap hu .i64 i (by omega) (by omega), hz]
    simp [Result.andThen, sliced]
  · refine ⟨_, _, rfl, by omega, by omega, by rw [List.length_drop, h3, ← Nat.sub_mul], fun hn => ?_, fun hp => ?_⟩
    · by_cases hc : cap = i
      · omega
      · rw [if_neg hc] at hn
        have := h0 (by simpa using hn)
        omega
    · obtain ⟨b, off, rfl, hA, hb, hcell⟩ := h4 (by omega)
      refine ⟨b, off + i * sz, ?_, hA, hb, fun k hk => ?_⟩
      · have : ¬ cap = i := by omega
        simp [this, Addr.add]
      · rw [List.length_drop] at hk
        rw [Nat.add_assoc, hcell (i * sz + k) (by omega), List.getD_eq_getElem?_getD, List.getD_eq_getElem?_getD, List.getElem?_drop]
theorem und_bytes : Try.prog.underlying 22 = some (.slice (Try.prog.elem 22)) := by kernel_rfl
theorem siz_bytes (w : World) : (sizeOf (Try.prog.elem 22)).run Try.prog w = .ok 1 w := by kernel_rfl
/-- a code that is read -/
def Code (w : World) (v : Value) (n : Nat) : Prop := ∃ l : List Int, l.length = n ∧ RF No w v 1 n (l.map (Value.int .u8)) ∧ ∀ x ∈ l, 0 ≤ x ∧ x ≤ 255
theorem Code.keep {w w' : World} {v : Value} {n : Nat} (h : Code w v n) (hc : Chg No w w') : Code w' v n := by
  obtain ⟨l, h1, h2, h3⟩ := h
  exact ⟨l, h1, h2.keep hc, h3⟩
theorem Code.shape {w : World} {v : Value} {n : Nat} (h : Code w v n) : ∃ a c, v = .slice a n c := by
  obtain ⟨l, h1, ⟨a, c, rfl, _⟩, h3⟩ := h
  exact ⟨a, c, rfl⟩
set_option maxRecDepth 100000 in
theorem vBig_any (v : Value) (n : Nat) (w : World) (h : Code w v n) :
    Calls Try.prog 4 #[v] w fun e w' => e = .returned (.bool (decide ((65536 : Int) < (n : Int)))) ∧ w' = w := by
  obtain ⟨a, c, rfl⟩ := h.shape
  go_enter Try.func4, Try.ntmps4
  go_wp2_with fail
  go_ret
  exact ⟨rfl, rfl⟩
end Go.Proofs.Ytccmocbkpanibaa

/- the arguments of a law, opened -/
namespace Go.Proofs.Ytccmocbkpanibaa
open Go.RowKit Go.ChangeShapes Go.WideShapes Go.ChangeAt

section
variable {H : Type} {enc : TypeId × Value → H} {W : World} {spare : Nat → Bool} {held : Bool}
/-- a slice of int that came in -/
theorem open_ri {fuel : Nat} {x : Value} {y : DataW H × List MemPlace} (hsp : ∀ b, spare b = true) (h : DataW.trod enc Try.prog W 0 spare held fuel 26 [x] = some y) :
    ∃ a n q, x = .slice a n q ∧ n ≤ 9223372036854775807 ∧ (n ≤ 17592186044416 → ∃ l : List Int, l.length = n ∧ RI No W (.slice a n q) l) := by
  rcases open_ints Try.underlying26 Try.underlying3 (by kernel_rfl) h with ⟨hcs, _⟩ | ⟨x', len, cap, zs, hcs, _, hl, hm, hz, _, hcell, _⟩
  · simp only [List.cons.injEq, and_true] at hcs
    subst hcs
    exact ⟨none, 0, 0, rfl, by omega, fun _ => ⟨[], rfl, RI.nil No W⟩⟩
  · simp only [List.cons.injEq, and_true] at hcs
    subst hcs
    rw [hsp, if_pos rfl] at hz
    have hm' : cap ≤ 9223372036854775807 := by simpa [maxLen] using hm
    refine ⟨some x', len, cap, rfl, by omega, fun hn => ⟨zs.take len, by rw [List.length_take]; omega, ?_⟩⟩
    have hlen : (zs.take len).length = len := by rw [List.length_take]; omega
    refine ⟨some x', cap, (by rw [hlen]), (by omega), hm', (by omega), (fun e => by cases e), fun hne => ?_⟩
    have hpos : 0 < len := by
      rcases Nat.eq_zero_or_pos len with h0 | h0
      · subst h0; simp at hne
      · exact h0
    obtain ⟨b, off, spot⟩ := x'
    have g0 := hcell 0 (by omega)
    have hspot : spot = none := by simpa [Addr.add] using World.cell?_spot g0
    subst hspot
    refine ⟨b, off, rfl, fun e => e, World.block_lt_of_cell? W _ g0, fun i hi => ?_⟩
    have hi' : i < len := by omega
    have := hcell i (by omega)
    have e : (⟨b, off, none⟩ : Addr).add i = ⟨b, off + i, none⟩ := by unfold Addr.add; split <;> simp_all
    rw [e] at this
    rw [this, List.getD_eq_getElem?_getD, List.getD_eq_getElem?_getD, List.getElem?_take_of_lt hi']
theorem open_i64 {fuel : Nat} {x : Value} {y : DataW H × List MemPlace} (h : DataW.trod enc Try.prog W 0 spare held fuel 3 [x] = some y) : ∃ n, x = .int .i64 n := by
  obtain ⟨n, e, _⟩ := DataW.trod_int Try.underlying3 h
  exact ⟨n, by simpa using e⟩
end
end Go.Proofs.Ytccmocbkpanibaa

/- a code that came in, opened -/
namespace Go.Proofs.Ytccmocbkpanibaa
open Go.RowKit Go.ChangeShapes Go.WideShapes Go.ChangeAt

section
variable {H : Type} {enc : TypeId × Value → H} {W : World} {spare : Nat → Bool} {held : Bool}
theorem open_code {fuel : Nat} {a0 : Option Addr} {n0 c0 : Nat} {y : DataW H × List MemPlace} (hsp : ∀ b, spare b = true) (h : DataW.trod enc Try.prog W 0 spare held fuel 22 [.slice a0 n0 c0] = some y) : Code W (.slice a0 n0 c0) n0 := by
  rcases open_ints Try.underlying22 Try.underlying5 (by kernel_rfl) h with ⟨hcs, _⟩ | ⟨x', len, cap, zs, hcs, _, hl, hm, hz, _, hcell, hwf⟩
  · simp only [List.cons.injEq, and_true, Value.slice.injEq] at hcs
    obtain ⟨rfl, rfl, rfl⟩ := hcs
    exact ⟨[], rfl, ⟨none, 0, rfl, by omega, by omega, rfl, fun _ => rfl, fun h => absurd h (by omega)⟩, fun x hx => by cases hx⟩
  · simp only [List.cons.injEq, and_true, Value.slice.injEq] at hcs
    obtain ⟨rfl, rfl, rfl⟩ := hcs
    rw [hsp, if_pos rfl] at hz
    have hm' : c0 ≤ 9223372036854775807 := by simpa [maxLen] using hm
    have hlen : (zs.take n0).length = n0 := by rw [List.length_take]; omega
    refine ⟨zs.take n0, hlen, ⟨some x', c0, rfl, hl, hm', by rw [List.length_map, hlen]; omega, (fun e => by cases e), fun hpos => ?_⟩, fun x hx => ?_⟩
    · obtain ⟨b, off, spot⟩ := x'
      have g0 := hcell 0 (by omega)
      have hspot : spot = none := by simpa [Addr.add] using World.cell?_spot g0
      subst hspot
      refine ⟨b, off, rfl, fun e => e, World.block_lt_of_cell? W _ g0, fun i hi => ?_⟩
      rw [List.length_map, hlen] at hi
      have := hcell i (by omega)
      have e : (⟨b, off, none⟩ : Addr).add i = ⟨b, off + i, none⟩ := by unfold Addr.add; split <;> simp_all
      rw [e] at this
      have hil : i < zs.length := by omega
      rw [this]
      simp [List.getD_eq_getElem?_getD, List.getElem?_take_of_lt hi, hil]
    · have := hwf x (List.mem_of_mem_take hx)
      unfold Lit.wf at this
      simp only [Bool.and_eq_true, decide_eq_true_eq] at this
      have h1 : IntKind.u8.min = 0 := rfl
      have h2 : IntKind.u8.max = 255 := rfl
      omega
end
end Go.Proofs.Ytccmocbkpanibaa

/- what the laws' helpers do with a Cache: its size, copy, compare, mark, look whether the mark is held -/
namespace Go.Proofs.Ytccmocbkpanibaa
open Go.RowKit

def zeroC : Ca := ⟨0, 0, [], [], 0⟩
/-- a Cache by value whose lists are the call's own -/
def RCO (base : Nat) (w : World) (v : Value) (c : Ca) : Prop :=
  ∃ pv mv, v = .agg #[.int .i64 c.pol, .int .i64 c.size, pv, mv, .int .i64 c.hand] ∧ OI base w pv c.pages ∧ OI base w mv c.marks ∧ ∀ q, own pv q → ¬ own mv q
/-- the blocks of a Cache by value -/
def ownC : Value → Nat → Prop
  | .agg xs, q => own (xs.getD 2 undef) q ∨ own (xs.getD 3 undef) q
  | _, _ => False
theorem ownC_agg {x0 x1 x2 x3 x4 : Value} {q : Nat} : ownC (.agg #[x0, x1, x2, x3, x4]) q ↔ own x2 q ∨ own x3 q := Iff.rfl
theorem RCO.lt {base : Nat} {w : World} {v : Value} {c : Ca} (h : RCO base w v c) (q : Nat) (hq : ownC v q) : base ≤ q ∧ q < w.heap.size := by
  obtain ⟨pv, mv, rfl, h1, h2, _⟩ := h
  rcases hq with hq | hq
  · exact h1.lt q hq
  · exact h2.lt q hq
theorem RCO.step {base : Nat} {w w' : World} {v : Value} {c : Ca} {T : Nat → Prop} (h : RCO base w v c) (hc : Chg T w w') (hT : ∀ q, ownC v q → ¬ T q) : RCO base w' v c := by
  obtain ⟨pv, mv, rfl, h1, h2, h3⟩ := h
  exact ⟨pv, mv, rfl, h1.step hc (fun q hq => hT q (.inl hq)), h2.step hc (fun q hq => hT q (.inr hq)), h3⟩
theorem RCO.keep {base : Nat} {w w' : World} {v : Value} {c : Ca} (h : RCO base w v c) (hc : Chg No w w') : RCO base w' v c := h.step hc (fun _ _ e => e)
theorem RCO.weak {base base' : Nat} {w : World} {v : Value} {c : Ca} (h : RCO base w v c) (hb : base' ≤ base) : RCO base' w v c := by
  obtain ⟨pv, mv, rfl, h1, h2, h3⟩ := h
  exact ⟨pv, mv, rfl, h1.weak hb, h2.weak hb, h3⟩
theorem RCO.read {base : Nat} {w : World} {v : Value} {c : Ca} (h : RCO base w v c) {A : Nat → Prop} (hA : ∀ q, ownC v q → ¬ A q) : RC A w v c := by
  obtain ⟨pv, mv, rfl, h1, h2, h3⟩ := h
  exact ⟨pv, mv, rfl, h1.read (fun q hq => hA q (.inl hq)), h2.read (fun q hq => hA q (.inr hq))⟩
theorem RCO.readNo {base : Nat} {w : World} {v : Value} {c : Ca} (h : RCO base w v c) : RC No w v c := h.read (fun _ _ e => e)
theorem RCO.zero (base : Nat) (w : World) : RCO base w (.agg #[.int .i64 0, .int .i64 0, .slice none 0 0, .slice none 0 0, .int .i64 0]) ⟨0, 0, [], [], 0⟩ :=
  ⟨_, _, rfl, OI.nil base w, OI.nil base w, fun q h => by simp [own, Value.ownBlock] at h⟩

theorem boxes3 {w : World} {t t' t'' : TypeId} {x0 x1 x2 x3 x4 y0 y1 y2 y3 y4 z0 z1 z2 z3 z4 : Value} {R : World → Prop} (h : ∀ W, Chg No w W → Box W w.heap.size x0 x1 x2 x3 x4 → Box W (w.heap.size + 1) y0 y1 y2 y3 y4 → Box W (w.heap.size + 1 + 1) z0 z1 z2 z3 z4 → R W) :
    R (((w.alloc (.cells #[x0, x1, x2, x3, x4] t)).alloc (.cells #[y0, y1, y2, y3, y4] t')).alloc (.cells #[z0, z1, z2, z3, z4] t'')) :=
  h _ ((((Chg.refl No w).alloc _).alloc _).alloc _) ((Box.new w x0 x1 x2 x3 x4 t).keep (((Chg.refl No _).alloc _).alloc _))
    (((Box.new (w.alloc (.cells #[x0, x1, x2, x3, x4] t)) y0 y1 y2 y3 y4 t').keep ((Chg.refl No _).alloc _)).at (by simp)) ((Box.new ((w.alloc (.cells #[x0, x1, x2, x3, x4] t)).alloc (.cells #[y0, y1, y2, y3, y4] t')) z0 z1 z2 z3 z4 t'').at (by simp))
theorem box1 {w : World} {t : TypeId} {x0 x1 x2 x3 x4 : Value} {R : World → Prop} (h : ∀ W, Chg No w W → Box W w.heap.size x0 x1 x2 x3 x4 → R W) : R (w.alloc (.cells #[x0, x1, x2, x3, x4] t)) :=
  h _ ((Chg.refl No w).alloc _) (Box.new w x0 x1 x2 x3 x4 t)
theorem boxes2 {w : World} {t t' : TypeId} {x0 x1 x2 x3 x4 y0 y1 y2 y3 y4 : Value} {R : World → Prop} (h : ∀ W, Chg No w W → Box W w.heap.size x0 x1 x2 x3 x4 → Box W (w.heap.size + 1) y0 y1 y2 y3 y4 → R W) :
    R ((w.alloc (.cells #[x0, x1, x2, x3, x4] t)).alloc (.cells #[y0, y1, y2, y3, y4] t')) :=
  h _ (((Chg.refl No w).alloc _).alloc _) ((Box.new w x0 x1 x2 x3 x4 t).keep ((Chg.refl No _).alloc _))
    ((Box.new (w.alloc (.cells #[x0, x1, x2, x3, x4] t)) y0 y1 y2 y3 y4 t').at (by simp))
/-- the new lists behind a store to a box of one's own -/
theorem OI.far {base : Nat} {w : World} {v : Value} {l : List Int} (h : OI base w v l) {b : Nat} (hb : b < base) (o : Nat) (x : Value) : OI base (w.setCell ⟨b, o, none⟩ x) v l :=
  h.set b o x (fun hq => by have := (h.lt b hq).1; omega)
end Go.Proofs.Ytccmocbkpanibaa
