import Derived.Test.YtdgcohoneijleaaGreatUc
import Derived.Test.YtdgcohoneijleaaGreatBase
import Derived.WalkKit
import Derived.ProofKit
import Derived.OpenShut
import Derived.ShutString
import Derived.ChangeOld
import Derived.Below
import Derived.ChangeSlices
import Derived.Test.YtdgcohoneijleaaGreatS
import Derived.Test.YtdgcohoneijleaaGreatPkX3
import Derived.Test.YtdgcohoneijleaaGreatL
/- a code that came in, opened -/
namespace Go.Proofs.YtdgcohoneijleaaGreat
open Go.RowKit Go.ChangeShapes Go.WideShapes Go.ChangeAt

section
variable {H : Type} {enc : TypeId × Value → H} {W : World} {spare : Nat → Bool} {held : Bool}
theorem open_code {fuel : Nat} {a0 : Option Addr} {n0 c0 : Nat} {y : DataW H × List MemPlace} (hsp : ∀ b, spare b = true) (h : DataW.trod enc Tryz.prog W 0 spare held fuel 22 [.slice a0 n0 c0] = some y) : Code W (.slice a0 n0 c0) n0 := by
  rcases open_ints Tryz.underlying22 Tryz.underlying5 (by kernel_rfl) h with ⟨hcs, _⟩ | ⟨x', len, cap, zs, hcs, _, hl, hm, hz, _, hcell, hwf⟩
  · simp only [List.cons.injEq, and_true, Value.slice.injEq] at hcs
    obtain ⟨rfl, rfl, rfl⟩ := hcs
    exact ⟨[], rfl, ⟨none, 0, rfl, by omega, by omega, rfl, fun _ => rfl, fun h => absurd h (by omega)⟩, fun x hx => by cases hx⟩
  · simp only [List.cons.injEq, and_true, Value.slice.injEq] at hcs
    obtain ⟨rfl, rfl, rfl⟩ := hcs
    rw [hsp, if_pos rfl] at hz
    have hm' : c0 ≤ 9223372036854775807 := by simpa [maxLen] using hm
    have hlen : (zs.take n0).length = n0 := by rw [List.length_take]; omega
    refine ⟨zs.take n0, hlen, ⟨some x', c0, rfl, hl, hm', by rw [List.length_map, hlen]; omega, (fun e => by cases e), fun hpos => ?_⟩, fun x hx => ?_⟩
    · obtain ⟨b, off, spot⟩ := x'
      have g0 := hcell 0 (by omega)
      have hspot : spot = none := by simpa [Addr.add] using World.cell?_spot g0
      subst hspot
      refine ⟨b, off, rfl, fun e => e, World.block_lt_of_cell? W _ g0, fun i hi => ?_⟩
      rw [List.length_map, hlen] at hi
      have := hcell i (by omega)
      have e : (⟨b, off, none⟩ : Addr).add i = ⟨b, off + i, none⟩ := by unfold Addr.add; split <;> simp_all
      rw [e] at this
      have hil : i < zs.length := by omega
      rw [this]
      simp [List.getD_eq_getElem?_getD, List.getElem?_take_of_lt hi, hil]
    · have := hwf x (List.mem_of_mem_take hx)
      unfold Lit.wf at this
      simp only [Bool.and_eq_true, decide_eq_true_eq] at this
      have h1 : IntKind.u8.min = 0 := rfl
      have h2 : IntKind.u8.max = 255 := rfl
      omega
end
end Go.Proofs.YtdgcohoneijleaaGreat

/- finite problems and chances, plain: the least expected cost is a bound for every strategy, and BestReply meets it -/
namespace Go.Proofs.YtdgcohoneijleaaGreat

structure Pr where
  mv : List (List Int)
  sv : List (List Int)
def mvA (p : Pr) (a b : Nat) : Int := (p.mv.getD a []).getD b 0
def svA (p : Pr) (r s : Nat) : Int := (p.sv.getD r []).getD s 0
def okA (p : Pr) (r s : Nat) : Bool := decide (0 ≤ svA p r s)
def sumK (f : Nat → Int) : Nat → Int
  | 0 => 0
  | k + 1 => sumK f k + f k
/-- the least of some numbers, with its place; negative if there is none -/
def bl (ok : Nat → Bool) (f : Nat → Int) : Nat → Nat × Int
  | 0 => (0, -1)
  | m + 1 => if ok m && (decide ((bl ok f m).2 < 0) || decide (f m < (bl ok f m).2)) then (m, f m) else bl ok f m
/-- sequences with their weights -/
abbrev Chs := List (List Int × Int)
def wS : Chs → List Int → Int
  | [], _ => 0
  | (q, w) :: cs, seen => (if seen.isPrefixOf q then w else 0) + wS cs seen
/-- the least expected cost of n more requests behind some, times the weights -/
def ahead (p : Pr) (cs : Chs) : Nat → Nat → List Int → Int
  | 0, _, _ => 0
  | n + 1, s, seen => sumK (fun r => if 0 < wS cs (seen ++ [(r : Int)]) then (bl (okA p r) (fun s' => wS cs (seen ++ [(r : Int)]) * (mvA p s s' + svA p r s') + ahead p cs n s' (seen ++ [(r : Int)])) p.mv.length).2 else 0) p.sv.length
/-- what a strategy pays for the rest of a sequence: it knows the state and what was asked -/
def rest (p : Pr) (τ : Nat → List Int → Nat) : Nat → List Int → List Int → Int
  | _, _, [] => 0
  | s, seen, r :: l => mvA p s (τ s (seen ++ [r])) + svA p r.toNat (τ s (seen ++ [r])) + rest p τ (τ s (seen ++ [r])) (seen ++ [r]) l
end Go.Proofs.YtdgcohoneijleaaGreat

/- valid metrics, problems, chances: what the two sides' tests say (plain) -/
namespace Go.Proofs.YtdgcohoneijleaaGreat

def cellA (d : List (List Int)) (x y : Nat) : Int := (d.getD x []).getD y 0
/-- a valid Metric -/
def MetP (d : List (List Int)) : Prop := (1 ≤ d.length ∧ d.length ≤ 6) ∧ (∀ x, x < d.length → (d.getD x []).length = d.length) ∧
  (∀ x y, x < d.length → y < d.length → cellA d x y = cellA d y x ∧ (x = y → cellA d x y = 0) ∧ (x ≠ y → 1 ≤ cellA d x y ∧ cellA d x y ≤ 99)) ∧
  ∀ x y z, x < d.length → y < d.length → z < d.length → cellA d x z ≤ cellA d x y + cellA d y z
end Go.Proofs.YtdgcohoneijleaaGreat

/- what the laws' helpers do with a Cache: its size, copy, compare, mark, look whether the mark is held -/
namespace Go.Proofs.YtdgcohoneijleaaGreat
open Go.RowKit

def zeroC : Ca := ⟨0, 0, [], [], 0⟩
/-- a Cache by value whose lists are the call's own -/
def RCO (base : Nat) (w : World) (v : Value) (c : Ca) : Prop :=
  ∃ pv mv, v = .agg #[.int .i64 c.pol, .int .i64 c.size, pv, mv, .int .i64 c.hand] ∧ OI base w pv c.pages ∧ OI base w mv c.marks ∧ ∀ q, own pv q → ¬ own mv q
/-- the blocks of a Cache by value -/
def ownC : Value → Nat → Prop
  | .agg xs, q => own (xs.getD 2 undef) q ∨ own (xs.getD 3 undef) q
  | _, _ => False
theorem RCO.lt {base : Nat} {w : World} {v : Value} {c : Ca} (h : RCO base w v c) (q : Nat) (hq : ownC v q) : base ≤ q ∧ q < w.heap.size := by
  obtain ⟨pv, mv, rfl, h1, h2, _⟩ := h
  rcases hq with hq | hq
  · exact h1.lt q hq
  · exact h2.lt q hq
theorem RCO.step {base : Nat} {w w' : World} {v : Value} {c : Ca} {T : Nat → Prop} (h : RCO base w v c) (hc : Chg T w w') (hT : ∀ q, ownC v q → ¬ T q) : RCO base w' v c := by
  obtain ⟨pv, mv, rfl, h1, h2, h3⟩ := h
  exact ⟨pv, mv, rfl, h1.step hc (fun q hq => hT q (.inl hq)), h2.step hc (fun q hq => hT q (.inr hq)), h3⟩
theorem RCO.keep {base : Nat} {w w' : World} {v : Value} {c : Ca} (h : RCO base w v c) (hc : Chg No w w') : RCO base w' v c := h.step hc (fun _ _ e => e)
theorem RCO.weak {base base' : Nat} {w : World} {v : Value} {c : Ca} (h : RCO base w v c) (hb : base' ≤ base) : RCO base' w v c := by
  obtain ⟨pv, mv, rfl, h1, h2, h3⟩ := h
  exact ⟨pv, mv, rfl, h1.weak hb, h2.weak hb, h3⟩
theorem RCO.read {base : Nat} {w : World} {v : Value} {c : Ca} (h : RCO base w v c) {A : Nat → Prop} (hA : ∀ q, ownC v q → ¬ A q) : RC A w v c := by
  obtain ⟨pv, mv, rfl, h1, h2, h3⟩ := h
  exact ⟨pv, mv, rfl, h1.read (fun q hq => hA q (.inl hq)), h2.read (fun q hq => hA q (.inr hq))⟩
theorem RCO.readNo {base : Nat} {w : World} {v : Value} {c : Ca} (h : RCO base w v c) : RC No w v c := h.read (fun _ _ e => e)
theorem RCO.zero (base : Nat) (w : World) : RCO base w (.agg #[.int .i64 0, .int .i64 0, .slice none 0 0, .slice none 0 0, .int .i64 0]) ⟨0, 0, [], [], 0⟩ :=
  ⟨_, _, rfl, OI.nil base w, OI.nil base w, fun q h => by simp [own, Value.ownBlock] at h⟩

theorem boxes2 {w : World} {t t' : TypeId} {x0 x1 x2 x3 x4 y0 y1 y2 y3 y4 : Value} {R : World → Prop} (h : ∀ W, Chg No w W → Box W w.heap.size x0 x1 x2 x3 x4 → Box W (w.heap.size + 1) y0 y1 y2 y3 y4 → R W) :
    R ((w.alloc (.cells #[x0, x1, x2, x3, x4] t)).alloc (.cells #[y0, y1, y2, y3, y4] t')) :=
  h _ (((Chg.refl No w).alloc _).alloc _) ((Box.new w x0 x1 x2 x3 x4 t).keep ((Chg.refl No _).alloc _))
    ((Box.new (w.alloc (.cells #[x0, x1, x2, x3, x4] t)) y0 y1 y2 y3 y4 t').at (by simp))
/-- the new lists behind a store to a box of one's own -/
theorem OI.far {base : Nat} {w : World} {v : Value} {l : List Int} (h : OI base w v l) {b : Nat} (hb : b < base) (o : Nat) (x : Value) : OI base (w.setCell ⟨b, o, none⟩ x) v l :=
  h.set b o x (fun hq => by have := (h.lt b hq).1; omega)
end Go.Proofs.YtdgcohoneijleaaGreat
