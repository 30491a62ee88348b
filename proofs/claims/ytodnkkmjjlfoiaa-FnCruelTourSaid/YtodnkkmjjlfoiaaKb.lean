import Derived.Test.YtodnkkmjjlfoiaaUc
import Derived.Test.YtodnkkmjjlfoiaaPk6
/- a letter of a code; a new Tournament -/
namespace Go.Proofs.Ytodnkkmjjlfoiaa
open Go.RowKit

def atC (l : List Int) (i : Nat) : Int := if i < l.length then l.getD i 0 else ((i * 7 + l.length) % 256 : Nat)
/-- a code that is read, letters told -/
def CodeL (w : World) (v : Value) (l : List Int) : Prop := RF No w v 1 l.length (l.map (Value.int .u8)) ∧ ∀ x ∈ l, 0 ≤ x ∧ x ≤ 255
theorem CodeL.keep {w w' : World} {v : Value} {l : List Int} (h : CodeL w v l) (hc : Chg No w w') : CodeL w' v l := ⟨h.1.keep hc, h.2⟩
theorem Code.list {w : World} {v : Value} {n : Nat} (h : Code w v n) : ∃ l, l.length = n ∧ CodeL w v l := by
  obtain ⟨l, h1, h2, h3⟩ := h
  subst h1
  exact ⟨l, rfl, h2, h3⟩
theorem atC_in {w : World} {v : Value} {l : List Int} (h : CodeL w v l) (i : Nat) : 0 ≤ atC l i ∧ atC l i ≤ 255 := by
  unfold atC
  split
  · rename_i hi
    rw [List.getD_eq_getElem?_getD, List.getElem?_eq_getElem hi]
    exact h.2 _ (List.getElem_mem hi)
  · omega
set_option maxRecDepth 100000 in
set_option maxHeartbeats 1000000 in
theorem vAt_any (v : Value) (l : List Int) (k : Nat) (w : World) (h : CodeL w v l) (hn : l.length ≤ 70000) (hk : k ≤ 200) :
    Calls Try.prog 5 #[v, .int .i64 (k : Int)] w fun e w' => e = .returned (.int .i64 (atC l k)) ∧ w = w' := by
  obtain ⟨h1, hx⟩ := h
  obtain ⟨a, c, rfl, _, hc, _, _, hcell⟩ := h1
  have hk0 : (0 : Int) ≤ (k : Int) := Int.natCast_nonneg _
  by_cases hlt : k < l.length
  · have he : atC l k = l.getD k 0 := by unfold atC; rw [if_pos hlt]
    obtain ⟨b, off, rfl, _, _, hce⟩ := hcell (by omega)
    have hb := hx (l.getD k 0) (by rw [List.getD_eq_getElem?_getD, List.getElem?_eq_getElem hlt]; exact List.getElem_mem hlt)
    have hg : w.cell? ⟨b, off + k, none⟩ = some (.int .u8 (l.getD k 0)) := by
      rw [hce k (by rw [List.length_map]; exact hlt)]
      simp [List.getD_eq_getElem?_getD, hlt]
    have HE := Lib.hid he
    obtain ⟨x, hxx⟩ : ∃ x, l.getD k 0 = x := ⟨_, rfl⟩
    rw [hxx] at hg hb he HE
    clear hcell hce hx he
    go_enter Try.func5, Try.ntmps5
    go_wp2_with fail
    go_ret
    rw [HE.out]
    exact ⟨rfl, rfl⟩
  · have he : atC l k = ((k * 7 + l.length) % 256 : Nat) := by unfold atC; rw [if_neg hlt]
    have HE := Lib.hid he
    clear hcell hx he
    go_enter Try.func5, Try.ntmps5
    go_wp2_with fail
    go_ret
    rw [HE.out]
    exact ⟨congrArg (fun x => Ending.returned (.int .i64 x)) (by omega), rfl⟩

set_option maxRecDepth 100000 in
set_option maxHeartbeats 1000000 in
theorem implNewTour_any (n : Int) (w : World) (hn : inB n 1 8 = true) :
    Calls Try.prog 6 #[.int .i64 n] w (Ret2 fun v0 v1 w' => v0 = .agg #[.int .i64 n, .slice none 0 0, .slice none 0 0] ∧ v1 = .bool true ∧ Chg No w w') := by
  have k0 := (Chg.refl No w).alloc (.cells #[.int .i64 0, .slice none 0 0, .slice none 0 0] 28)
  have b0 := Box3.new w (.int .i64 0) (.slice none 0 0) (.slice none 0 0) 28
  have HN := Lib.hid hn
  clear hn
  go_enter Try.func6, Try.ntmps6
  go_wp2_with fail
  refine (isItems_any _ _).mono ?_
  rintro e w' ⟨rfl, rfl⟩
  rw [HN.out]
  go_wp2_with fail
  refine bodyPost_ret (v := .tuple #[.agg #[.int .i64 n, .slice none 0 0, .slice none 0 0], .bool true]) (by simp [results, Try.results6, go_sem]) rfl ?_
  exact ⟨_, _, rfl, rfl, rfl, (Chg.refl No w).alloc _⟩
end Go.Proofs.Ytodnkkmjjlfoiaa
