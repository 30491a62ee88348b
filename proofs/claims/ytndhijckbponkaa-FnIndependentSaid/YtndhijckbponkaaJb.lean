import Derived.Test.YtndhijckbponkaaJa
/- requests drawn each for itself, plain -/
namespace Go.Proofs.Ytndhijckbponkaa

theorem bl_congr {ok : Nat → Bool} {f g : Nat → Int} (m : Nat) (h : ∀ s, s < m → ok s = true → f s = g s) : bl ok f m = bl ok g m := by
  induction m with
  | zero => rfl
  | succ m ih =>
    have e := ih (fun s hs hok => h s (by omega) hok)
    unfold bl
    rw [e]
    cases hk : ok m
    · rfl
    · rw [h m (by omega) hk]
theorem bl_scale {ok : Nat → Bool} {g : Nat → Int} {c : Int} (hc : 0 < c) (m : Nat) (hg : ∀ s, s < m → ok s = true → 0 ≤ g s) (hex : ∃ s, s < m ∧ ok s = true) : (bl ok (fun s => c * g s) m).2 = c * (bl ok g m).2 := by
  obtain ⟨x, hx, hxo⟩ := hex
  have h1 := bl_spec (ok := ok) (f := fun s => c * g s) m (fun s hs hok => Int.mul_nonneg (Int.le_of_lt hc) (hg s hs hok))
  have h2 := bl_spec (ok := ok) (f := g) m hg
  rcases h1 with ⟨_, h⟩ | ⟨_, a1, a2, a3, a4⟩
  · rw [h x hx] at hxo; cases hxo
  rcases h2 with ⟨_, h⟩ | ⟨_, b1, b2, b3, b4⟩
  · rw [h x hx] at hxo; cases hxo
  have u1 := a4 _ b1 b2
  have u2 := b4 _ a1 a2
  have u3 := Int.mul_le_mul_of_nonneg_left u2 (Int.le_of_lt hc)
  rw [← b3] at u1
  rw [← a3] at u3
  omega
theorem sumK_mul (c : Int) (f : Nat → Int) (k : Nat) : sumK (fun r => c * f r) k = c * sumK f k := by
  induction k with
  | zero => simp [sumK]
  | succ k ih => simp only [sumK]; rw [ih, Int.mul_add]
/-- the least expected cost of n more requests that are drawn each for itself -/
def free (p : Pr) (ws : Nat → Int) (W : Int) : Nat → Nat → Int
  | 0, _ => 0
  | n + 1, s => sumK (fun r => ws r * (bl (okA p r) (fun s' => W ^ n * (mvA p s s' + svA p r s') + free p ws W n s') p.mv.length).2) p.sv.length
theorem free_nn {p : Pr} (hp : PrB p) {ws : Nat → Int} (hw : ∀ r, r < p.sv.length → 0 ≤ ws r) {W : Int} (hW : 0 ≤ W) : ∀ (n s : Nat), s < p.mv.length → 0 ≤ free p ws W n s
  | 0, _, _ => Int.le_refl _
  | n + 1, s, hs => by
    unfold free
    refine Int.le_trans (Int.le_of_eq (sumK_zero p.sv.length).symm) (sumK_le _ (fun r hr => Int.mul_nonneg (hw r hr) ?_))
    have hb := bl_spec (ok := okA p r) (f := fun s' => W ^ n * (mvA p s s' + svA p r s') + free p ws W n s') p.mv.length (fun s' hs' hok => by
      have h1 := hp.1 s s' hs hs'
      have h2 : 0 ≤ svA p r s' := by unfold okA at hok; simpa using hok
      have h3 := free_nn hp hw hW n s' hs'
      have h4 := Int.mul_nonneg (show 0 ≤ W ^ n from Int.pow_nonneg hW) (show 0 ≤ mvA p s s' + svA p r s' by omega)
      omega)
    obtain ⟨x, hx, hxo⟩ := hp.2 r hr
    rcases hb with ⟨_, h2⟩ | ⟨h1, _⟩
    · rw [h2 x hx] at hxo; cases hxo
    · exact h1
/-- one more request: what was asked before has the weight c -/
theorem ahead_one {p : Pr} (hp : PrB p) {cs : Chs} {ws : Nat → Int} {W c : Int} (hc : 0 < c) (hw : ∀ r, r < p.sv.length → 0 ≤ ws r) (seen : List Int) (h : ∀ r, r < p.sv.length → wS cs (seen ++ [(r : Int)]) = c * ws r) (s : Nat) (hs : s < p.mv.length) :
    ahead p cs 1 s seen = c * free p ws W 1 s := by
  unfold ahead free
  rw [← sumK_mul]
  refine sumK_congr _ (fun r hr => ?_)
  have hwr := hw r hr
  have hcr := Int.mul_nonneg (Int.le_of_lt hc) hwr
  rw [h r hr]
  by_cases h0 : ws r = 0
  · rw [h0]; simp
  · have hpos : 0 < ws r := by omega
    have hcp : 0 < c * ws r := Int.mul_pos hc hpos
    rw [if_pos hcp]
    have hb : ∀ s', s' < p.mv.length → okA p r s' = true → 0 ≤ mvA p s s' + svA p r s' := fun s' hs' hok => by
      have h1 := hp.1 s s' hs hs'
      have h2 : 0 ≤ svA p r s' := by unfold okA at hok; simpa using hok
      omega
    have e1 : bl (okA p r) (fun s' => c * ws r * (mvA p s s' + svA p r s') + ahead p cs 0 s' (seen ++ [(r : Int)])) p.mv.length = bl (okA p r) (fun s' => c * ws r * (mvA p s s' + svA p r s')) p.mv.length := bl_congr _ (fun s' _ _ => by unfold ahead; omega)
    have e2 : bl (okA p r) (fun s' => W ^ 0 * (mvA p s s' + svA p r s') + free p ws W 0 s') p.mv.length = bl (okA p r) (fun s' => mvA p s s' + svA p r s') p.mv.length := bl_congr _ (fun s' _ _ => by unfold free; simp)
    rw [e1, e2, bl_scale hcp _ hb (hp.2 r hr), Int.mul_assoc]
/-- two requests -/
theorem ahead_two {p : Pr} (hp : PrB p) {cs : Chs} {ws : Nat → Int} {W : Int} (hW : 0 < W) (hw : ∀ r, r < p.sv.length → 0 ≤ ws r) (h1 : ∀ r, r < p.sv.length → wS cs [(r : Int)] = ws r * W) (h2 : ∀ r q, r < p.sv.length → q < p.sv.length → wS cs [(r : Int), (q : Int)] = ws r * ws q) (s : Nat) (hs : s < p.mv.length) :
    ahead p cs 2 s [] = free p ws W 2 s := by
  unfold ahead free
  refine sumK_congr _ (fun r hr => ?_)
  have hwr := hw r hr
  rw [List.nil_append, h1 r hr]
  by_cases h0 : ws r = 0
  · rw [h0]; simp
  · have hpos : 0 < ws r := by omega
    rw [if_pos (Int.mul_pos hpos hW)]
    have e1 : bl (okA p r) (fun s' => ws r * W * (mvA p s s' + svA p r s') + ahead p cs 1 s' [(r : Int)]) p.mv.length = bl (okA p r) (fun s' => ws r * (W ^ 1 * (mvA p s s' + svA p r s') + free p ws W 1 s')) p.mv.length := bl_congr _ (fun s' hs' _ => by
      rw [ahead_one hp (W := W) hpos hw [(r : Int)] (fun q hq => h2 r q hr hq) s' hs', Int.pow_one]
      generalize mvA p s s' + svA p r s' = X
      generalize free p ws W 1 s' = F
      rw [Int.mul_add, Int.mul_assoc])
    rw [e1]
    refine bl_scale hpos _ (fun s' hs' hok => ?_) (hp.2 r hr)
    have g1 := hp.1 s s' hs hs'
    have g2 : 0 ≤ svA p r s' := by unfold okA at hok; simpa using hok
    have g3 := free_nn hp hw (Int.le_of_lt hW) 1 s' hs'
    have g4 := Int.mul_nonneg (show 0 ≤ W ^ 1 from Int.pow_nonneg (Int.le_of_lt hW)) (show 0 ≤ mvA p s s' + svA p r s' by omega)
    omega
end Go.Proofs.Ytndhijckbponkaa
