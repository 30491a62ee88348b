import Derived.Test.YtndhijckbponkaaJc
/- the law's chances of independent requests: valid, their weights, their least cost (plain) -/
namespace Go.Proofs.Ytndhijckbponkaa

theorem wS_cs1_nil {ws : Nat → Int} (hw : ∀ r, 0 ≤ ws r) (m : Nat) : wS (cs1 ws m) [] = sumK ws m := by
  induction m with
  | zero => rfl
  | succ m ih =>
    have hm := hw m
    simp only [cs1, sumK]
    rw [wS_app, ih]
    by_cases h0 : 0 < ws m
    · rw [if_pos h0]; simp [wS]
    · rw [if_neg h0]; simp only [wS]; omega
theorem wS_row_nil {ws : Nat → Int} (hw : ∀ r, 0 ≤ ws r) (i m : Nat) : wS (cs2row ws i m) [] = ws i * sumK ws m := by
  induction m with
  | zero => simp [cs2row, wS, sumK]
  | succ m ih =>
    have hm := Int.mul_nonneg (hw i) (hw m)
    simp only [cs2row, sumK]
    rw [wS_app, ih, Int.mul_add]
    by_cases h0 : 0 < ws i * ws m
    · rw [if_pos h0]; simp [wS]
    · rw [if_neg h0]; simp only [wS]; omega
theorem wS_cs2_nil {ws : Nat → Int} (hw : ∀ r, 0 ≤ ws r) (K m : Nat) : wS (cs2 ws K m) [] = sumK ws m * sumK ws K := by
  induction m with
  | zero => simp [cs2, wS, sumK]
  | succ m ih =>
    simp only [cs2, sumK]
    rw [wS_app, ih, wS_row_nil hw, Int.add_mul]
/-- FnIndependent, one request and two -/
theorem indep_one {p : Pr} (hp : PrB p) {ws : Nat → Int} (hw : ∀ r, 0 ≤ ws r) (W : Int) (s : Nat) (hs : s < p.mv.length) : ahead p (cs1 ws p.sv.length) 1 s [] = free p ws W 1 s := by
  have h := ahead_one hp (cs := cs1 ws p.sv.length) (ws := ws) (W := W) (c := 1) (by omega) (fun r _ => hw r) [] (fun r hr => by rw [List.nil_append, wS_cs1 hw, if_pos hr, Int.one_mul]) s hs
  rw [h, Int.one_mul]
theorem indep_two {p : Pr} (hp : PrB p) {ws : Nat → Int} (hw : ∀ r, 0 ≤ ws r) (hW : 0 < sumK ws p.sv.length) (s : Nat) (hs : s < p.mv.length) : ahead p (cs2 ws p.sv.length p.sv.length) 2 s [] = free p ws (sumK ws p.sv.length) 2 s :=
  ahead_two hp hW (fun r _ => hw r) (fun r hr => by rw [wS_cs2a hw, if_pos hr]) (fun r q hr hq => by rw [wS_cs2b hw _ _ _ _ hq, if_pos hr]) s hs
end Go.Proofs.Ytndhijckbponkaa
