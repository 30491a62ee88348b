import Derived.Test.YtndhijckbponkaaJa
/- how large the expected costs get, plain -/
namespace Go.Proofs.Ytndhijckbponkaa

theorem sumK_ind (x : Int) (w : Int) (hw : 0 ≤ w) (k : Nat) : sumK (fun r => if (r : Int) = x then w else 0) k ≤ w := by
  induction k with
  | zero => simpa [sumK] using hw
  | succ k ih =>
    simp only [sumK]
    by_cases e : (k : Int) = x
    · rw [if_pos e]
      have : sumK (fun r => if (r : Int) = x then w else 0) k = 0 := by
        rw [sumK_congr (g := fun _ => 0) k (fun r hr => by rw [if_neg (by omega)]), sumK_zero]
      omega
    · rw [if_neg e]; omega
theorem wS_split {k L : Nat} (seen : List Int) (m : Nat) : ∀ {cs : Chs}, ChB k L cs → sumK (fun r => wS cs (seen ++ [(r : Int)])) m ≤ wS cs seen
  | [], _ => by rw [sumK_congr (g := fun _ => 0) m (fun r _ => by simp [wS]), sumK_zero]; simp [wS]
  | (q, w) :: cs, h => by
    have ih := wS_split (k := k) (L := L) seen m (cs := cs) (fun x hx => h x (List.mem_cons_of_mem _ hx))
    have hw := (h (q, w) (List.mem_cons_self ..)).2.2
    simp only at hw
    have e : sumK (fun r => wS ((q, w) :: cs) (seen ++ [(r : Int)])) m = sumK (fun r => if (seen ++ [(r : Int)]).isPrefixOf q then w else 0) m + sumK (fun r => wS cs (seen ++ [(r : Int)])) m := by
      rw [← sumK_add]; exact sumK_congr m (fun r _ => rfl)
    rw [e]
    simp only [wS]
    have h1 : sumK (fun r => if (seen ++ [(r : Int)]).isPrefixOf q then w else 0) m ≤ if seen.isPrefixOf q then w else 0 := by
      cases hp : seen.isPrefixOf q
      · rw [sumK_congr (g := fun _ => 0) m (fun r _ => by rw [prefix_snoc_no hp]; rfl), sumK_zero]; simp
      · by_cases hl : seen.length < q.length
        · refine Int.le_trans (sumK_le (g := fun r => if (r : Int) = q.getD seen.length 0 then w else 0) m (fun r _ => ?_)) (by simpa using sumK_ind (q.getD seen.length 0) w (Int.le_of_lt hw) m)
          cases e : (seen ++ [(r : Int)]).isPrefixOf q
          · simp only [Bool.false_eq_true, if_false]
            split
            · omega
            · exact Int.le_refl _
          · have := (prefix_snoc hp hl).1 e
            rw [if_pos this.symm]; simp
        · rw [sumK_congr (g := fun _ => 0) m (fun r _ => by
            cases e : (seen ++ [(r : Int)]).isPrefixOf q
            · rfl
            · rw [List.isPrefixOf_iff_prefix] at e
              have := e.length_le
              rw [List.length_append] at this
              simp at this; omega), sumK_zero]
          simp; omega
    omega
/-- at most C for each request, times the weights -/
theorem ahead_bound {p : Pr} (hp : PrB p) {cs : Chs} {L : Nat} (hc : ChB p.sv.length L cs) {C : Int} (hC : 0 ≤ C) (hb : ∀ a b r, a < p.mv.length → b < p.mv.length → r < p.sv.length → mvA p a b + svA p r b ≤ C) : ∀ (n s : Nat) (seen : List Int), s < p.mv.length → ahead p cs n s seen ≤ C * n * wS cs seen
  | 0, s, seen, _ => by simp [ahead]
  | n + 1, s, seen, hs => by
    have hsp := wS_split (k := p.sv.length) (L := L) seen p.sv.length hc
    have h1 : ahead p cs (n + 1) s seen ≤ sumK (fun r => C * ((n : Int) + 1) * wS cs (seen ++ [(r : Int)])) p.sv.length := by
      unfold ahead
      refine sumK_le _ (fun r hr => ?_)
      split
      · obtain ⟨h2, _, h4, _⟩ := reply_spec hp hc n s (seen ++ [(r : Int)]) r hs hr
        rw [h4]
        generalize (bl (okA p r) (fun s' => wS cs (seen ++ [(r : Int)]) * (mvA p s s' + svA p r s') + ahead p cs n s' (seen ++ [(r : Int)])) p.mv.length).1 = x at h2
        have h5 := ahead_bound hp hc hC hb n x (seen ++ [(r : Int)]) h2
        have h6 := Int.mul_le_mul_of_nonneg_left (hb s x r hs h2 hr) (wS_nn hc (seen ++ [(r : Int)]))
        have h7 : C * ((n : Int) + 1) * wS cs (seen ++ [(r : Int)]) = C * n * wS cs (seen ++ [(r : Int)]) + wS cs (seen ++ [(r : Int)]) * C := by
          rw [Int.mul_add, Int.add_mul, Int.mul_one, Int.mul_comm C (wS cs _)]
        omega
      · have h0 := wS_nn hc (seen ++ [(r : Int)])
        exact Int.mul_nonneg (Int.mul_nonneg hC (by omega)) h0
    have h2 : sumK (fun r => C * ((n : Int) + 1) * wS cs (seen ++ [(r : Int)])) p.sv.length = C * ((n : Int) + 1) * sumK (fun r => wS cs (seen ++ [(r : Int)])) p.sv.length := by
      generalize p.sv.length = k
      induction k with
      | zero => simp [sumK]
      | succ k ih => simp only [sumK]; rw [ih]; exact (Int.mul_add _ _ _).symm
    have h3 := Int.mul_le_mul_of_nonneg_left hsp (Int.mul_nonneg hC (show (0 : Int) ≤ (n : Int) + 1 by omega))
    push_cast
    omega
end Go.Proofs.Ytndhijckbponkaa

/- valid metrics, problems, chances: what the two sides' tests say (plain) -/
namespace Go.Proofs.Ytndhijckbponkaa

def cellA (d : List (List Int)) (x y : Nat) : Int := (d.getD x []).getD y 0
/-- a valid Metric -/
def MetP (d : List (List Int)) : Prop := (1 ≤ d.length ∧ d.length ≤ 6) ∧ (∀ x, x < d.length → (d.getD x []).length = d.length) ∧
  (∀ x y, x < d.length → y < d.length → cellA d x y = cellA d y x ∧ (x = y → cellA d x y = 0) ∧ (x ≠ y → 1 ≤ cellA d x y ∧ cellA d x y ≤ 99)) ∧
  ∀ x y z, x < d.length → y < d.length → z < d.length → cellA d x z ≤ cellA d x y + cellA d y z
/-- a valid Problem -/
def PrP (p : Pr) : Prop := (1 ≤ p.mv.length ∧ p.mv.length ≤ 4) ∧ MetP p.mv ∧ (1 ≤ p.sv.length ∧ p.sv.length ≤ 4) ∧
  ∀ r, r < p.sv.length → (p.sv.getD r []).length = p.mv.length ∧ (∀ s, s < p.mv.length → -1 ≤ svA p r s ∧ svA p r s ≤ 20) ∧ ∃ s, s < p.mv.length ∧ 0 ≤ svA p r s
theorem PrP.mv_in {p : Pr} (h : PrP p) {a b : Nat} (ha : a < p.mv.length) (hb : b < p.mv.length) : 0 ≤ mvA p a b ∧ mvA p a b ≤ 99 := by
  obtain ⟨_, h2, h3⟩ := h.2.1.2.2.1 a b ha hb
  show 0 ≤ cellA p.mv a b ∧ cellA p.mv a b ≤ 99
  by_cases e : a = b
  · rw [h2 e]; omega
  · have := h3 e; omega
theorem PrP.prB {p : Pr} (h : PrP p) : PrB p := by
  refine ⟨fun a b ha hb => (h.mv_in ha hb).1, fun r hr => ?_⟩
  obtain ⟨_, _, s, hs, h0⟩ := h.2.2.2 r hr
  exact ⟨s, hs, by unfold okA; simpa using h0⟩
theorem PrP.cost {p : Pr} (h : PrP p) : ∀ a b r, a < p.mv.length → b < p.mv.length → r < p.sv.length → mvA p a b + svA p r b ≤ 119 := fun a b r ha hb hr => by
  have h1 := (h.mv_in ha hb).2
  have h2 := ((h.2.2.2 r hr).2.1 b hb).2
  omega
/-- valid Chances -/
def ChP (k maxN maxL : Nat) (qs : List (List Int)) (ws : List Int) : Prop := (1 ≤ qs.length ∧ qs.length ≤ maxN) ∧ ws.length = qs.length ∧ (∀ w ∈ ws, 1 ≤ w ∧ w ≤ 9) ∧
  ∀ q ∈ qs, q.length = (qs.getD 0 []).length ∧ q.length ≤ maxL ∧ ∀ r ∈ q, 0 ≤ r ∧ r < (k : Int)
theorem ChP.chB {k maxN maxL : Nat} {qs : List (List Int)} {ws : List Int} (h : ChP k maxN maxL qs ws) : ChB k (qs.getD 0 []).length (qs.zip ws) := fun x hx => by
  obtain ⟨_, _, h3, h4⟩ := h
  obtain ⟨h5, h6⟩ := List.of_mem_zip (a := x.1) (b := x.2) hx
  obtain ⟨h7, _, h8⟩ := h4 _ h5
  have := h3 _ h6
  exact ⟨h7, h8, by omega⟩
theorem ChP.len {k maxN maxL : Nat} {qs : List (List Int)} {ws : List Int} (h : ChP k maxN maxL qs ws) : (qs.getD 0 []).length ≤ maxL := by
  obtain ⟨⟨h1, _⟩, _, _, h4⟩ := h
  have hm : qs.getD 0 [] ∈ qs := by
    rw [List.getD_eq_getElem?_getD, List.getElem?_eq_getElem (by omega : 0 < qs.length)]
    exact List.getElem_mem _
  exact (h4 _ hm).2.1
theorem wS_le9 : ∀ (qs : List (List Int)) (ws : List Int) (seen : List Int), (∀ w ∈ ws, 1 ≤ w ∧ w ≤ 9) → wS (qs.zip ws) seen ≤ 9 * (qs.length : Int)
  | [], _, _, _ => by simp [wS]
  | q :: qs, [], _, _ => by simp [wS]; omega
  | q :: qs, w :: ws, seen, h => by
    have ih := wS_le9 qs ws seen (fun x hx => h x (List.mem_cons_of_mem _ hx))
    have hw := h w (List.mem_cons_self ..)
    simp only [List.zip_cons_cons, wS, List.length_cons]
    push_cast
    split <;> omega
end Go.Proofs.Ytndhijckbponkaa
