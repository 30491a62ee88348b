import Derived.Test.YtdgcohoneijleaaGreatPkX4
import Derived.Test.YtdgcohoneijleaaGreatPkX2
import Derived.Test.YtdgcohoneijleaaGreatT
import Derived.Test.YtdgcohoneijleaaGreatBa
import Derived.Test.YtdgcohoneijleaaGreatPkX1
/- the run of a cache in the reference -/
namespace Go.Proofs.YtdgcohoneijleaaGreat
open Go.RowKit

def reqB (n : Int) (l : List Int) : Bool := inB n 1 8 && decide (l.length ≤ 60) && belowB n l
end Go.Proofs.YtdgcohoneijleaaGreat

/- the farthest next use: the program's plan -/
namespace Go.Proofs.YtdgcohoneijleaaGreat
open Go.RowKit

/-- what the first j pages of a cache say of the farthest one -/
structure FarTo (l c : List Int) (j : Nat) (b f : Int) : Prop where
  all : ∀ q, q ∈ c.take j → q ∈ l ∧ (l.idxOf q : Int) ≤ f
  some : 0 < j → b ∈ c ∧ b ∈ l ∧ f = (l.idxOf b : Int)
  none : j = 0 → f = -1
theorem FarTo.zero (l c : List Int) : FarTo l c 0 (-1) (-1) := ⟨fun q hq => by simp at hq, fun h => absurd h (Nat.lt_irrefl _), fun _ => rfl⟩
theorem atI_in {l : List Int} {x : Int} (h : x ∈ l) : atI l x = (l.idxOf x : Int) := by unfold atI; rw [if_pos h]
theorem atI_ge {l : List Int} {x : Int} (h : 0 ≤ atI l x) : x ∈ l := by
  refine Classical.byContradiction fun e => ?_
  unfold atI at h
  rw [if_neg e] at h
  omega
theorem FarTo.hit {l c : List Int} {j : Nat} {b f : Int} (_h : FarTo l c j b f) (hj : j < c.length) (hn : c[j] ∉ l) : IsFar l c c[j] := by
  refine ⟨List.getElem_mem hj, fun q _ => ?_⟩
  rw [List.idxOf_eq_length hn]
  exact List.idxOf_le_length
theorem mem_take_snoc {l : List Int} {j : Nat} (hj : j < l.length) {q : Int} (h : q ∈ l.take (j + 1)) : q ∈ l.take j ∨ q = l[j] := by
  rw [List.take_succ_eq_append_getElem hj, List.mem_append, List.mem_singleton] at h; exact h
theorem FarTo.up {l c : List Int} {j : Nat} {b f : Int} (h : FarTo l c j b f) (hj : j < c.length) (hm : c[j] ∈ l) (hf : f < atI l c[j]) : FarTo l c (j + 1) c[j] (atI l c[j]) := by
  rw [atI_in hm] at hf ⊢
  refine ⟨fun q hq => ?_, fun _ => ⟨List.getElem_mem hj, hm, rfl⟩, fun e => by omega⟩
  rcases mem_take_snoc hj hq with hq | rfl
  · have := h.all q hq; exact ⟨this.1, by omega⟩
  · exact ⟨hm, Int.le_refl _⟩
theorem FarTo.stay {l c : List Int} {j : Nat} {b f : Int} (h : FarTo l c j b f) (hj : j < c.length) (hm : c[j] ∈ l) (hf : ¬ f < atI l c[j]) : FarTo l c (j + 1) b f := by
  rw [atI_in hm] at hf
  refine ⟨fun q hq => ?_, fun _ => ?_, fun e => by omega⟩
  · rcases mem_take_snoc hj hq with hq | rfl
    · exact h.all q hq
    · exact ⟨hm, by omega⟩
  · rcases Nat.eq_zero_or_pos j with rfl | hp
    · have := h.none rfl; omega
    · exact h.some hp
theorem FarTo.done {l c : List Int} {b f : Int} (h : FarTo l c c.length b f) (hc : 0 < c.length) : IsFar l c b := by
  obtain ⟨h1, h2, h3⟩ := h.some hc
  refine ⟨h1, fun q hq => ?_⟩
  have := (h.all q (by rw [List.take_length]; exact hq)).2
  omega
theorem IsFar.same {l c c' : List Int} {p : Int} (h : IsFar l c p) (e : ∀ x, x ∈ c ↔ x ∈ c') : IsFar l c' p := ⟨(e p).1 h.1, fun q hq => h.2 q ((e q).2 hq)⟩
theorem FarTo.fge {l c : List Int} {j : Nat} {b f : Int} (h : FarTo l c j b f) : -1 ≤ f ∧ f ≤ l.length := by
  rcases Nat.eq_zero_or_pos j with rfl | hp
  · have := h.none rfl; omega
  · obtain ⟨_, _, h3⟩ := h.some hp
    have := List.idxOf_le_length (l := l) (a := b)
    omega

set_option maxRecDepth 100000 in
set_option maxHeartbeats 1000000 in
theorem farthest_any (A B : Nat → Prop) (i : Nat) (vr vc : Value) (rq c : List Int) (w : World) (hr : RI A w vr rq) (hc : RI B w vc c) (hi : i < rq.length) (hne : 0 < c.length) :
    Calls Tryz.prog 73 #[.int .i64 (i : Int), vr, vc] w fun e w' => ∃ p, e = .returned (.int .i64 p) ∧ IsFar (rq.drop (i + 1)) c p ∧ w = w' := by
  have hlr := hr.len
  have hlc := hc.len
  obtain ⟨ra, rcap, rfl, _⟩ := id hr
  have hwi : IntKind.i64.wrap ((i : Int) + 1) = (i : Int) + 1 := IntWalk.i64_in _ (by omega)
  obtain ⟨xs, hx, hrx⟩ := hr.from (i + 1) ((i : Int) + 1) (by omega) (by omega)
  obtain ⟨L, hL⟩ : ∃ L, rq.drop (i + 1) = L := ⟨_, rfl⟩
  rw [hL] at hrx ⊢
  obtain ⟨xa, xn, xc, rfl⟩ := hrx.shape
  obtain ⟨ca, cap, rfl, hcap, hmax, hlen, _, hcc⟩ := id hc
  clear hL hr
  go_enter Tryz.func73, Tryz.ntmps73
  go_wp2_with fail
  go_loop [7, 8, 14] (fun b f z => ∃ (j : Nat) (bi fi : Int), j ≤ c.length ∧ b = .int .i64 bi ∧ f = .int .i64 fi ∧ z = .int .i64 (j : Int) ∧ Hid (FarTo L c j bi fi)) (fun _ _ z => c.length - (intOf z).toNat)
  case atStart => exact ⟨0, -1, -1, Nat.zero_le _, rfl, rfl, rfl, Lib.hid (FarTo.zero L c)⟩
  case round =>
    obtain ⟨j, bi, fi, hj, rfl, rfl, rfl, HF⟩ := hrel
    by_cases hlt : j < c.length
    · obtain ⟨b, off, rfl, _, _, hcell⟩ := hcc (by intro e; simp [e] at hlt)
      have hcl := hcell j hlt
      have hhit := Lib.hid (HF.out.hit hlt)
      have hup := Lib.hid (HF.out.up hlt)
      have hst := Lib.hid (fun hm (hf : atI L c[j] ≤ fi) => HF.out.stay hlt hm (by omega))
      have hge := HF.out.fge
      obtain ⟨y, hy⟩ : ∃ y, c[j] = y := ⟨_, rfl⟩
      have hgy : c.getD j 0 = y := by rw [List.getD_eq_getElem?_getD, List.getElem?_eq_getElem hlt]; exact hy
      rw [hgy] at hcl
      rw [hy] at hhit hup hst
      have hj0 : (0 : Int) ≤ (j : Int) := Int.natCast_nonneg _
      have hj1 : (j : Int) < (c.length : Int) := by omega
      have hw1 : IntKind.i64.wrap ((j : Int) + 1) = (j : Int) + 1 := IntWalk.i64_in _ (by omega)
      clear hcell hcc hgy hy
      go_wp2_with (go_at_call 59; refine (Index_any A _ L y _ hrx).mono ?_; rintro e w' ⟨rfl, rfl⟩)
      · go_ret
        have h : atI L y < 0 := by assumption
        exact ⟨_, rfl, hhit.out (fun hm => by rw [atI_in hm] at h; omega), rfl⟩
      · have h0 : 0 ≤ atI L y := by assumption
        have h1 : fi < atI L y := by assumption
        go_round
        case rel => exact ⟨j + 1, y, atI L y, by omega, rfl, rfl, by go_num, Lib.hid (hup.out (atI_ge h0) h1)⟩
        case measure => simp [intOf]; omega
      · have h0 : 0 ≤ atI L y := by assumption
        have h1 : atI L y ≤ fi := by assumption
        go_round
        case rel => exact ⟨j + 1, bi, fi, by omega, rfl, rfl, by go_num, Lib.hid (hst.out (atI_ge h0) h1)⟩
        case measure => simp [intOf]; omega
    · have hjl : j = c.length := by omega
      subst hjl
      have hd := HF.out.done hne
      clear hcc
      go_wp2_with fail
      go_ret
      exact ⟨_, rfl, hd, rfl⟩
end Go.Proofs.YtdgcohoneijleaaGreat
