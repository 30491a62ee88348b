import Derived.Test.YtndhijckbponkaaJa
/- how large the expected costs get, plain -/
namespace Go.Proofs.Ytndhijckbponkaa

theorem sumK_ind (x : Int) (w : Int) (hw : 0 ≤ w) (k : Nat) : sumK (fun r => if (r : Int) = x then w else 0) k ≤ w := by
  induction k with
  | zero => simpa [sumK] using hw
  | succ k ih =>
    simp only [sumK]
    by_cases e : (k : Int) = x
    · rw [if_pos e]
      have : sumK (fun r => if (r : Int) = x then w else 0) k = 0 := by
        rw [sumK_congr (g := fun _ => 0) k (fun r hr => by rw [if_neg (by omega)]), sumK_zero]
      omega
    · rw [if_neg e]; omega
theorem wS_split {k L : Nat} (seen : List Int) (m : Nat) : ∀ {cs : Chs}, ChB k L cs → sumK (fun r => wS cs (seen ++ [(r : Int)])) m ≤ wS cs seen
  | [], _ => by rw [sumK_congr (g := fun _ => 0) m (fun r _ => by simp [wS]), sumK_zero]; simp [wS]
  | (q, w) :: cs, h => by
    have ih := wS_split (k := k) (L := L) seen m (cs := cs) (fun x hx => h x (List.mem_cons_of_mem _ hx))
    have hw := (h (q, w) (List.mem_cons_self ..)).2.2
    simp only at hw
    have e : sumK (fun r => wS ((q, w) :: cs) (seen ++ [(r : Int)])) m = sumK (fun r => if (seen ++ [(r : Int)]).isPrefixOf q then w else 0) m + sumK (fun r => wS cs (seen ++ [(r : Int)])) m := by
      rw [← sumK_add]; exact sumK_congr m (fun r _ => rfl)
    rw [e]
    simp only [wS]
    have h1 : sumK (fun r => if (seen ++ [(r : Int)]).isPrefixOf q then w else 0) m ≤ if seen.isPrefixOf q then w else 0 := by
      cases hp : seen.isPrefixOf q
      · rw [sumK_congr (g := fun _ => 0) m (fun r _ => by rw [prefix_snoc_no hp]; rfl), sumK_zero]; simp
      · by_cases hl : seen.length < q.length
        · refine Int.le_trans (sumK_le (g := fun r => if (r : Int) = q.getD seen.length 0 then w else 0) m (fun r _ => ?_)) (by simpa using sumK_ind (q.getD seen.length 0) w (Int.le_of_lt hw) m)
          cases e : (seen ++ [(r : Int)]).isPrefixOf q
          · simp only [Bool.false_eq_true, if_false]
            split
            · omega
            · exact Int.le_refl _
          · have := (prefix_snoc hp hl).1 e
            rw [if_pos this.symm]; simp
        · rw [sumK_congr (g := fun _ => 0) m (fun r _ => by
            cases e : (seen ++ [(r : Int)]).isPrefixOf q
            · rfl
            · rw [List.isPrefixOf_iff_prefix] at e
              have := e.length_le
              rw [List.length_append] at this
              simp at this; omega), sumK_zero]
          simp; omega
    omega
/-- at most C for each request, times the weights -/
theorem ahead_bound {p : Pr} (hp : PrB p) {cs : Chs} {L : Nat} (hc : ChB p.sv.length L cs) {C : Int} (hC : 0 ≤ C) (hb : ∀ a b r, a < p.mv.length → b < p.mv.length → r < p.sv.length → mvA p a b + svA p r b ≤ C) : ∀ (n s : Nat) (seen : List Int), s < p.mv.length → ahead p cs n s seen ≤ C * n * wS cs seen
  | 0, s, seen, _ => by simp [ahead]
  | n + 1, s, seen, hs => by
    have hsp := wS_split (k := p.sv.length) (L := L) seen p.sv.length hc
    have h1 : ahead p cs (n + 1) s seen ≤ sumK (fun r => C * ((n : Int) + 1) * wS cs (seen ++ [(r : Int)])) p.sv.length := by
      unfold ahead
      refine sumK_le _ (fun r hr => ?_)
      split
      · obtain ⟨h2, _, h4, _⟩ := reply_spec hp hc n s (seen ++ [(r : Int)]) r hs hr
        rw [h4]
        generalize (bl (okA p r) (fun s' => wS cs (seen ++ [(r : Int)]) * (mvA p s s' + svA p r s') + ahead p cs n s' (seen ++ [(r : Int)])) p.mv.length).1 = x at h2
        have h5 := ahead_bound hp hc hC hb n x (seen ++ [(r : Int)]) h2
        have h6 := Int.mul_le_mul_of_nonneg_left (hb s x r hs h2 hr) (wS_nn hc (seen ++ [(r : Int)]))
        have h7 : C * ((n : Int) + 1) * wS cs (seen ++ [(r : Int)]) = C * n * wS cs (seen ++ [(r : Int)]) + wS cs (seen ++ [(r : Int)]) * C := by
          rw [Int.mul_add, Int.add_mul, Int.mul_one, Int.mul_comm C (wS cs _)]
        omega
      · have h0 := wS_nn hc (seen ++ [(r : Int)])
        exact Int.mul_nonneg (Int.mul_nonneg hC (by omega)) h0
    have h2 : sumK (fun r => C * ((n : Int) + 1) * wS cs (seen ++ [(r : Int)])) p.sv.length = C * ((n : Int) + 1) * sumK (fun r => wS cs (seen ++ [(r : Int)])) p.sv.length := by
      generalize p.sv.length = k
      induction k with
      | zero => simp [sumK]
      | succ k ih => simp only [sumK]; rw [ih]; exact (Int.mul_add _ _ _).symm
    have h3 := Int.mul_le_mul_of_nonneg_left hsp (Int.mul_nonneg hC (show (0 : Int) ≤ (n : Int) + 1 by omega))
    push_cast
    omega
end Go.Proofs.Ytndhijckbponkaa
