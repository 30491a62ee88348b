import Derived.Test.YtndhijckbponkaaQl
import Derived.Test.YtndhijckbponkaaJh
/- FnIndependent, plain -/
namespace Go.Proofs.Ytndhijckbponkaa

theorem zip_fs : ∀ cs : Chs, (cs.map Prod.fst).zip (cs.map Prod.snd) = cs
  | [] => rfl
  | (q, w) :: cs => by simp only [List.map_cons, List.zip_cons_cons]; rw [zip_fs cs]
theorem sumTo_shift (g : Nat → Int) : ∀ m, sumTo g (m + 1) = g 0 + sumTo (fun i => g (i + 1)) m
  | 0 => by simp [sumTo]
  | m + 1 => by
    have ih := sumTo_shift g m
    have e1 : sumTo g (m + 1 + 1) = sumTo g (m + 1) + g (m + 1) := rfl
    have e2 : sumTo (fun i => g (i + 1)) (m + 1) = sumTo (fun i => g (i + 1)) m + g (m + 1) := rfl
    omega
theorem sumW_cons (x : Int) (l : List Int) : sumW (x :: l) = x + sumW l := by
  unfold sumW
  rw [List.length_cons, sumTo_shift]
  rfl
theorem wS_sumW : ∀ cs : Chs, wS cs [] = sumW (cs.map Prod.snd)
  | [] => rfl
  | (q, w) :: cs => by
    rw [List.map_cons, sumW_cons, wS, wS_sumW cs, if_pos (by simp [List.isPrefixOf])]
theorem sumK_sumTo (f : Nat → Int) : ∀ m, sumK f m = sumTo f m
  | 0 => rfl
  | m + 1 => by unfold sumK sumTo; rw [sumK_sumTo f m]
theorem wOf_nn {p : Pr} {l : List Int} {W : Int} (g : Fg p l W) (r : Nat) : 0 ≤ wOf l r := by
  unfold wOf
  by_cases h : r < l.length
  · exact (g.w9 r h).1
  · rw [List.getD_eq_getElem?_getD, List.getElem?_eq_none (by omega)]; exact Int.le_refl _
theorem sumK_wOf {p : Pr} {l : List Int} {W : Int} (g : Fg p l W) : sumK (wOf l) p.sv.length = W := by
  rw [sumK_sumTo, ← g.len, ← g.sum]; rfl
/-- what BestExpected says of the Chances of all sequences with one or two requests -/
theorem bex_ind {p : Pr} {S : Nat} {l : List Int} {L : Nat} {cs : Chs} (hi : indB p (S : Int) l (L : Int) = true) (hL : (∀ c ∈ cs, c.1.length = L) ∧ (L = 1 ∧ cs = cs1 (wOf l) p.sv.length ∨ L = 2 ∧ cs = cs2 (wOf l) p.sv.length p.sv.length))
    (hok : (bexV p (S : Int) (cs.map Prod.fst) (cs.map Prod.snd)).ok = true) : bexV p (S : Int) (cs.map Prod.fst) (cs.map Prod.snd) = indV p (S : Int) l (L : Int) := by
  obtain ⟨g, hs0, hs1, _, _, hW1⟩ := indB_facts hi
  have hS : S < p.mv.length := by omega
  cases hd : drawB p (S : Int) (cs.map Prod.fst) (cs.map Prod.snd)
  · unfold bexV at hok
    rw [hd] at hok
    cases hok
  obtain ⟨_, hc, _, _⟩ := drawB_facts hd
  have h0 := hc.1.1
  rw [List.length_map] at h0
  have hlen : ((cs.map Prod.fst).getD 0 []).length = L := by
    rw [List.getD_eq_getElem?_getD, List.getElem?_map, List.getElem?_eq_getElem h0]
    exact hL.1 _ (List.getElem_mem h0)
  have hK := sumK_wOf g
  unfold bexV indV
  rw [hd, hi, if_pos rfl, if_pos rfl, hlen, zip_fs, ← wS_sumW, Int.toNat_natCast, Int.toNat_natCast]
  rcases hL.2 with ⟨rfl, hcs⟩ | ⟨rfl, hcs⟩
  · rw [hcs, indep_one g.pr.prB (wOf_nn g) (sumW l) S hS, wS_cs1_nil (wOf_nn g), hK]
    rw [show (sumW l) ^ 1 = sumW l by rw [Int.pow_succ, Int.pow_zero, Int.one_mul]]
  · have h2 := indep_two g.pr.prB (wOf_nn g) (by rw [hK]; omega) S hS
    rw [hcs, h2, wS_cs2_nil (wOf_nn g), hK]
    rw [show (sumW l) ^ 2 = sumW l * sumW l by rw [Int.pow_succ, Int.pow_succ, Int.pow_zero, Int.one_mul]]
theorem cs1_lenW (ws : Nat → Int) : ∀ k, ∀ c ∈ cs1 ws k, c.1.length = 1
  | 0, _, h => by cases h
  | k + 1, c, h => by
    unfold cs1 at h
    rcases List.mem_append.1 h with h | h
    · exact cs1_lenW ws k c h
    · split at h
      · rw [List.mem_singleton] at h; rw [h]; rfl
      · cases h
theorem row_lenW (ws : Nat → Int) (i : Nat) : ∀ k, ∀ c ∈ cs2row ws i k, c.1.length = 2
  | 0, _, h => by cases h
  | k + 1, c, h => by
    unfold cs2row at h
    rcases List.mem_append.1 h with h | h
    · exact row_lenW ws i k c h
    · split at h
      · rw [List.mem_singleton] at h; rw [h]; rfl
      · cases h
theorem cs2_lenW (ws : Nat → Int) (K : Nat) : ∀ k, ∀ c ∈ cs2 ws K k, c.1.length = 2
  | 0, _, h => by cases h
  | k + 1, c, h => by
    unfold cs2 at h
    rcases List.mem_append.1 h with h | h
    · exact cs2_lenW ws K k c h
    · exact row_lenW ws k K c h
/-- no Chances, no answer -/
theorem bex_nil (p : Pr) (s : Int) : (bexV p s [] []).ok = false := by
  cases hd : drawB p s [] []
  · unfold bexV; rw [hd]; rfl
  · obtain ⟨_, hc, _⟩ := drawB_facts hd
    have := hc.1.1
    simp at this
end Go.Proofs.Ytndhijckbponkaa
