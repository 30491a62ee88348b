import Derived.Test.YtampibdnnbekjaaP
/- plain: sequences of items in order, their weights and the sum of their faults -/
namespace Go.Proofs.Ytampibdnnbekjaa

/-- the faults of a list of requests behind a cache -/
def nfC (c : Ca) : List Int → Nat
  | [] => 0
  | x :: l => (if hasB c.pages x then 0 else 1) + nfC (stepC c x) l
theorem placesTo_cons (c : Ca) (x : Int) (l : List Int) (k : Nat) : (placesTo c (x :: l) (k + 1)).length = (if hasB c.pages x then 0 else 1) + (placesTo (stepC c x) l k).length := by
  induction k with
  | zero =>
    show (if hasB c.pages x then [] else [] ++ [((0 : Nat) : Int)] : List Int).length = _
    cases hasB c.pages x <;> rfl
  | succ k ih =>
    have e : placesTo c (x :: l) (k + 1 + 1) = if hasB (runC (stepC c x) (l.take k)).pages (l.getD k 0) then placesTo c (x :: l) (k + 1) else placesTo c (x :: l) (k + 1) ++ [((k + 1 : Nat) : Int)] := rfl
    have e2 : placesTo (stepC c x) l (k + 1) = if hasB (runC (stepC c x) (l.take k)).pages (l.getD k 0) then placesTo (stepC c x) l k else placesTo (stepC c x) l k ++ [((k : Nat) : Int)] := rfl
    rw [e, e2]
    cases hasB (runC (stepC c x) (l.take k)).pages (l.getD k 0)
    · simp only [Bool.false_eq_true, if_false, List.length_append, List.length_singleton, ih]; omega
    · simp only [if_true, ih]
theorem places_nf (l : List Int) : ∀ c : Ca, (places c l).length = nfC c l := by
  induction l with
  | nil => exact fun _ => rfl
  | cons x l ih =>
    intro c
    show (placesTo c (x :: l) (l.length + 1)).length = _
    rw [placesTo_cons]
    show _ + (places (stepC c x) l).length = _
    rw [ih]
    rfl
theorem nfC_le (l : List Int) : ∀ c : Ca, nfC c l ≤ l.length := by
  induction l with
  | nil => exact fun _ => Nat.le_refl _
  | cons x l ih =>
    intro c
    have := ih (stepC c x)
    show (if hasB c.pages x then 0 else 1) + nfC (stepC c x) l ≤ l.length + 1
    split <;> omega
/-- a sum over the first numbers -/
def sumTo (g : Nat → Int) : Nat → Int
  | 0 => 0
  | m + 1 => sumTo g m + g m
theorem sumTo_congr {g h : Nat → Int} {m : Nat} (e : ∀ i, i < m → g i = h i) : sumTo g m = sumTo h m := by
  induction m with
  | zero => rfl
  | succ m ih =>
    rw [sumTo, sumTo, ih (fun i hi => e i (by omega)), e m (by omega)]
theorem sumTo_add (g : Nat → Int) (a b : Nat) : sumTo g (a + b) = sumTo g a + sumTo (fun j => g (a + j)) b := by
  induction b with
  | zero => simp [sumTo]
  | succ b ih =>
    rw [← Nat.add_assoc, sumTo, ih, sumTo, Int.add_assoc]
theorem sumTo_mul (g : Nat → Int) (a m : Nat) : sumTo g (a * m) = sumTo (fun i => sumTo (fun j => g (i * m + j)) m) a := by
  induction a with
  | zero => simp [sumTo]
  | succ a ih =>
    rw [Nat.succ_mul, sumTo_add, ih, sumTo]
theorem sumTo_scale (g : Nat → Int) (k : Int) (m : Nat) : sumTo (fun i => k * g i) m = k * sumTo g m := by
  induction m with
  | zero => simp [sumTo]
  | succ m ih => rw [sumTo, sumTo, ih, Int.mul_add]
theorem sumTo_both (g h : Nat → Int) (m : Nat) : sumTo (fun i => g i + h i) m = sumTo g m + sumTo h m := by
  induction m with
  | zero => rfl
  | succ m ih => rw [sumTo, sumTo, sumTo, ih]; omega
theorem sumTo_bound {g : Nat → Int} {B : Int} {m : Nat} (h : ∀ i, i < m → 0 ≤ g i ∧ g i ≤ B) : ∀ j, j ≤ m → 0 ≤ sumTo g j ∧ sumTo g j ≤ (j : Int) * B := by
  intro j
  induction j with
  | zero => intro _; simp [sumTo]
  | succ j ih =>
    intro hj
    have h1 := ih (by omega)
    have h2 := h j (by omega)
    rw [sumTo, show ((j + 1 : Nat) : Int) = (j : Int) + 1 from rfl, Int.add_mul]
    omega
/-- the sequence with a number, the first item first -/
def digs (n : Nat) : Nat → Nat → List Int
  | 0, _ => []
  | L + 1, t => ((t / n ^ L % n : Nat) : Int) :: digs n L t
theorem digs_len (n L t : Nat) : (digs n L t).length = L := by
  induction L with
  | zero => rfl
  | succ L ih => simp [digs, ih]
theorem digs_at (n L t : Nat) : ∀ j, j < L → (digs n L t).getD j 0 = ((t / n ^ (L - 1 - j) % n : Nat) : Int) := by
  induction L with
  | zero => exact fun j hj => absurd hj (Nat.not_lt_zero _)
  | succ L ih =>
    intro j hj
    cases j with
    | zero => rfl
    | succ j =>
      show (digs n L t).getD j 0 = _
      rw [ih j (by omega), show L + 1 - 1 - (j + 1) = L - 1 - j by omega]
theorem digs_zero (n L : Nat) : digs n L 0 = List.replicate L 0 := by
  induction L with
  | zero => rfl
  | succ L ih => rw [digs, ih, Nat.zero_div, Nat.zero_mod]; rfl
theorem digs_below {n : Nat} (hn : 0 < n) (L t : Nat) : ∀ x ∈ digs n L t, 0 ≤ x ∧ x < (n : Int) := by
  induction L with
  | zero => exact fun x hx => absurd hx (List.not_mem_nil)
  | succ L ih =>
    intro x hx
    rcases List.mem_cons.1 hx with rfl | hx
    · have := Nat.mod_lt (t / n ^ L) hn
      omega
    · exact ih x hx
theorem digs_split {n : Nat} (hn : 0 < n) (L K a b : Nat) (hk : L ≤ K) : digs n L (a * n ^ K + b) = digs n L b := by
  induction L with
  | zero => rfl
  | succ L ih =>
    rw [digs, digs, ih (by omega)]
    have e : n ^ K = n ^ L * n ^ (K - L) := by rw [← Nat.pow_add]; congr 1; omega
    have e2 : n ^ (K - L) = n * n ^ (K - L - 1) := by
      rw [← Nat.pow_succ']; congr 1; omega
    have h1 : (a * n ^ K + b) / n ^ L = a * n ^ (K - L) + b / n ^ L := by
      rw [e, show a * (n ^ L * n ^ (K - L)) + b = b + n ^ L * (a * n ^ (K - L)) by rw [Nat.add_comm, Nat.mul_left_comm], Nat.add_mul_div_left _ _ (Nat.pow_pos hn), Nat.add_comm]
    rw [h1, e2, show a * (n * n ^ (K - L - 1)) + b / n ^ L = b / n ^ L + n * (a * n ^ (K - L - 1)) by rw [Nat.add_comm, Nat.mul_left_comm], Nat.add_mul_mod_self_left]
theorem digs_first {n : Nat} (hn : 0 < n) (L a b : Nat) (ha : a < n) (hb : b < n ^ L) : digs n (L + 1) (a * n ^ L + b) = (a : Int) :: digs n L b := by
  rw [digs, digs_split hn L L a b (Nat.le_refl _)]
  have h1 : (a * n ^ L + b) / n ^ L = a := by
    rw [show a * n ^ L + b = b + n ^ L * a by rw [Nat.add_comm, Nat.mul_comm], Nat.add_mul_div_left _ _ (Nat.pow_pos hn), Nat.div_eq_of_lt hb, Nat.zero_add]
  rw [h1, Nat.mod_eq_of_lt ha]
/-- the product of the weights of a sequence -/
def wt (ws s : List Int) : Int := s.foldl (fun p x => p * ws.getD x.toNat 0) 1
theorem wt_from (ws s : List Int) : ∀ p : Int, s.foldl (fun p x => p * ws.getD x.toNat 0) p = p * wt ws s := by
  unfold wt
  induction s with
  | nil => intro p; simp
  | cons x s ih =>
    intro p
    rw [List.foldl_cons, List.foldl_cons, ih, ih (1 * _), Int.one_mul, Int.mul_assoc]
theorem wt_cons (ws : List Int) (x : Int) (s : List Int) : wt ws (x :: s) = ws.getD x.toNat 0 * wt ws s := by
  show s.foldl _ (1 * _) = _
  rw [wt_from, Int.one_mul]
theorem wt_snoc (ws s : List Int) (j : Nat) (hj : j < s.length) : wt ws (s.take (j + 1)) = wt ws (s.take j) * ws.getD (s.getD j 0).toNat 0 := by
  have e : s.getD j 0 = s[j] := by rw [List.getD_eq_getElem?_getD, List.getElem?_eq_getElem hj]; rfl
  rw [take_snoc s j hj, wt, List.foldl_append, e]
  rfl
theorem wt_bound {ws : List Int} (h : ∀ x ∈ ws, 0 ≤ x ∧ x ≤ 9) (s : List Int) : 0 ≤ wt ws s ∧ wt ws s ≤ 9 ^ s.length := by
  induction s with
  | nil => exact ⟨(by decide : (0 : Int) ≤ 1), (by decide : (1 : Int) ≤ 9 ^ 0)⟩
  | cons x s ih =>
    have hx : 0 ≤ ws.getD x.toNat 0 ∧ ws.getD x.toNat 0 ≤ 9 := by
      by_cases e : x.toNat < ws.length
      · exact h _ (getD_mem e)
      · rw [List.getD_eq_getElem?_getD, List.getElem?_eq_none (by omega)]; exact ⟨by decide, by decide⟩
    rw [wt_cons, List.length_cons, Int.pow_succ, Int.mul_comm (9 ^ s.length)]
    exact ⟨Int.mul_nonneg hx.1 ih.1, Int.le_trans (Int.mul_le_mul_of_nonneg_left ih.2 hx.1) (Int.mul_le_mul_of_nonneg_right hx.2 (by exact Int.le_trans ih.1 ih.2))⟩
/-- what a sequence adds -/
def gAdd (ws : List Int) (n L : Nat) (c : Ca) (t : Nat) : Int := wt ws (digs n L t) * (nfC c (digs n L t) : Int)
theorem sum_wt (ws : List Int) (hn : 0 < ws.length) (L : Nat) : sumTo (fun t => wt ws (digs ws.length L t)) (ws.length ^ L) = sumTo (fun a => ws.getD a 0) ws.length ^ L := by
  induction L with
  | zero => show (0 : Int) + 1 = _; rw [Int.pow_zero]; rfl
  | succ L ih =>
    rw [Nat.pow_succ', sumTo_mul, Int.pow_succ, Int.mul_comm, ← ih]
    rw [Int.mul_comm, ← sumTo_scale]
    refine sumTo_congr (fun a ha => ?_)
    rw [Int.mul_comm, ← sumTo_scale]
    refine sumTo_congr (fun b hb => ?_)
    rw [digs_first hn L a b ha hb, wt_cons]
    rfl
/-- the sum of the faults of all sequences, as the reference has it -/
def drawnC (ws : List Int) (W : Int) : Nat → Ca → Int
  | 0, _ => 0
  | L + 1, c => sumTo (fun a => ws.getD a 0 * (drawnC ws W L (stepC c (a : Int)) + if hasB c.pages (a : Int) then 0 else W ^ L)) ws.length
theorem sum_drawn (ws : List Int) (hn : 0 < ws.length) (L : Nat) : ∀ c : Ca, sumTo (gAdd ws ws.length L c) (ws.length ^ L) = drawnC ws (sumTo (fun a => ws.getD a 0) ws.length) L c := by
  induction L with
  | zero =>
    intro c
    show (0 : Int) + wt ws [] * ((0 : Nat) : Int) = 0
    simp
  | succ L ih =>
    intro c
    rw [Nat.pow_succ', sumTo_mul, drawnC]
    refine sumTo_congr (fun a ha => ?_)
    have e : sumTo (fun j => gAdd ws ws.length (L + 1) c (a * ws.length ^ L + j)) (ws.length ^ L) = sumTo (fun j => ws.getD a 0 * (gAdd ws ws.length L (stepC c (a : Int)) j + (if hasB c.pages (a : Int) then 0 else 1) * wt ws (digs ws.length L j))) (ws.length ^ L) := by
      refine sumTo_congr (fun b hb => ?_)
      unfold gAdd
      rw [digs_first hn L a b ha hb, wt_cons]
      show ws.getD a 0 * wt ws (digs ws.length L b) * (((if hasB c.pages (a : Int) then 0 else 1) + nfC (stepC c (a : Int)) (digs ws.length L b) : Nat) : Int) = _
      rw [Int.mul_assoc]
      congr 1
      split
      · simp
      · rw [Int.natCast_add, Int.mul_add, Int.one_mul]
        simp
        omega
    rw [e, sumTo_scale, sumTo_both, sumTo_scale, sum_wt ws hn L, ih]
    congr 2
    split
    · simp
    · simp
def bB : Nat → Int
  | 0 => 0
  | L + 1 => 72 * (bB L + 10000)
theorem bB_nonneg (L : Nat) : 0 ≤ bB L := by
  induction L with
  | zero => exact Int.le_refl _
  | succ L ih => rw [bB]; omega
/-- a part of a sum of the reference -/
def dPart (ws : List Int) (W : Int) (L : Nat) (c : Ca) (a : Nat) : Int := drawnC ws W L (stepC c (a : Int)) + if hasB c.pages (a : Int) then 0 else W ^ L
theorem dPart_bound {ws : List Int} {W : Int} {L : Nat} (c : Ca) (a : Nat) (hW : 0 ≤ W ^ L ∧ W ^ L ≤ 10000) (hd : ∀ c, 0 ≤ drawnC ws W L c ∧ drawnC ws W L c ≤ bB L) : 0 ≤ dPart ws W L c a ∧ dPart ws W L c a ≤ bB L + 10000 := by
  have hi := hd (stepC c (a : Int))
  unfold dPart
  split <;> omega
theorem dPart_sum {ws : List Int} (hl : ws.length ≤ 8) (h : ∀ x ∈ ws, 0 ≤ x ∧ x ≤ 9) {W : Int} {L : Nat} (c : Ca) (hW : 0 ≤ W ^ L ∧ W ^ L ≤ 10000) (hd : ∀ c, 0 ≤ drawnC ws W L c ∧ drawnC ws W L c ≤ bB L) : ∀ m, m ≤ ws.length → 0 ≤ sumTo (fun a => ws.getD a 0 * dPart ws W L c a) m ∧ sumTo (fun a => ws.getD a 0 * dPart ws W L c a) m ≤ bB (L + 1) := by
  intro m hm
  have hb := sumTo_bound (g := fun a => ws.getD a 0 * dPart ws W L c a) (B := 9 * (bB L + 10000)) (m := ws.length) (fun a ha => ?_) m hm
  · refine ⟨hb.1, Int.le_trans hb.2 ?_⟩
    have h0 := bB_nonneg L
    have : (m : Int) ≤ 8 := by omega
    refine Int.le_trans (Int.mul_le_mul_of_nonneg_right this (by omega)) ?_
    rw [bB]
    omega
  · have hx := h _ (getD_mem (l := ws) ha)
    have hy := dPart_bound (ws := ws) c a hW hd
    exact ⟨Int.mul_nonneg hx.1 hy.1, Int.le_trans (Int.mul_le_mul_of_nonneg_left hy.2 hx.1) (Int.mul_le_mul_of_nonneg_right hx.2 (by omega))⟩
theorem drawnC_succ (ws : List Int) (W : Int) (L : Nat) (c : Ca) : drawnC ws W (L + 1) c = sumTo (fun a => ws.getD a 0 * dPart ws W L c a) ws.length := rfl
theorem drawnC_bound {ws : List Int} (hl : ws.length ≤ 8) (h : ∀ x ∈ ws, 0 ≤ x ∧ x ≤ 9) {W : Int} (hW : ∀ L, L ≤ 4 → 0 ≤ W ^ L ∧ W ^ L ≤ 10000) (L : Nat) : L ≤ 4 → ∀ c : Ca, 0 ≤ drawnC ws W L c ∧ drawnC ws W L c ≤ bB L := by
  induction L with
  | zero => exact fun _ c => ⟨Int.le_refl _, Int.le_refl _⟩
  | succ L ih =>
    intro hL c
    rw [drawnC_succ]
    exact dPart_sum hl h c (hW L (by omega)) (ih (by omega)) ws.length (Nat.le_refl _)
theorem bB_le {L : Nat} (h : L ≤ 4) : bB L ≤ 300000000000 := by
  match L, h with
  | 0, _ => decide
  | 1, _ => decide
  | 2, _ => decide
  | 3, _ => decide
  | 4, _ => decide
end Go.Proofs.Ytampibdnnbekjaa
