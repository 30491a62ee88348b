import Derived.Test.YtdgcohoneijleaaGreatAa
/- Plain Lean: configurations in their order, the orders of few numbers, the cost of a move as both texts reckon it. -/
namespace Go.Proofs.YtdgcohoneijleaaGreat

/-- how two lists compare -/
def cmpL : List Int → List Int → Int
  | [], [] => 0
  | [], _ :: _ => -1
  | _ :: _, [] => 1
  | a :: l, b :: m => if a < b then -1 else if b < a then 1 else cmpL l m
theorem cmpL_self : ∀ l : List Int, cmpL l l = 0
  | [] => rfl
  | a :: l => by rw [cmpL, if_neg (Int.lt_irrefl a), if_neg (Int.lt_irrefl a), cmpL_self l]
theorem cmpL_anti : ∀ l m : List Int, cmpL m l = - cmpL l m
  | [], [] => rfl
  | [], _ :: _ => rfl
  | _ :: _, [] => rfl
  | a :: l, b :: m => by
    have ih := cmpL_anti l m
    unfold cmpL
    by_cases h1 : a < b
    · rw [if_neg (by omega), if_pos h1, if_pos h1]; rfl
    · by_cases h2 : b < a
      · rw [if_pos h2, if_neg h1, if_pos h2]
      · rw [if_neg h2, if_neg h1, if_neg h1, if_neg h2, ih]
/-- the configurations of k servers, of points from f on -/
def cfR (n : Nat) : Nat → Nat → List (List Int)
  | 0, _ => [[]]
  | k + 1, f => (List.range' f (n - f)).flatMap fun (x : Nat) => (cfR n k x).map ((x : Int) :: ·)
theorem cfR_mem (n : Nat) : ∀ (k f : Nat) (l : List Int), l ∈ cfR n k f ↔ l.length = k ∧ (∀ x ∈ l, (f : Int) ≤ x ∧ x < n) ∧ l.Pairwise (· ≤ ·)
  | 0, f, l => by
    rw [cfR]
    constructor
    · intro h
      have : l = [] := by simpa using h
      subst this; simp
    · intro h
      have : l = [] := List.eq_nil_of_length_eq_zero h.1
      simp [this]
  | k + 1, f, l => by
    rw [cfR, List.mem_flatMap]
    constructor
    · rintro ⟨x, hx, hl⟩
      obtain ⟨m, hm, rfl⟩ := List.mem_map.1 hl
      obtain ⟨h1, h2, h3⟩ := (cfR_mem n k x m).1 hm
      have hx' := List.mem_range'_1.1 hx
      refine ⟨by simp [h1], fun y hy => ?_, List.pairwise_cons.2 ⟨fun y hy => (h2 y hy).1, h3⟩⟩
      rcases List.mem_cons.1 hy with rfl | hy
      · omega
      · have := h2 y hy; omega
    · rintro ⟨h1, h2, h3⟩
      cases l with
      | nil => simp at h1
      | cons y m =>
        have hy := h2 y (by simp)
        refine ⟨y.toNat, List.mem_range'_1.2 (by omega), List.mem_map.2 ⟨m, ?_, ?_⟩⟩
        · rw [cfR_mem n k]
          have hp := List.pairwise_cons.1 h3
          refine ⟨by simpa using h1, fun z hz => ?_, hp.2⟩
          have := hp.1 z hz
          have := h2 z (by simp [hz])
          omega
        · rw [show ((y.toNat : Nat) : Int) = y by omega]
theorem cfR_lex (n : Nat) : ∀ (k f : Nat), (cfR n k f).Pairwise (fun a b => cmpL a b = -1)
  | 0, f => by simp [cfR]
  | k + 1, f => by
    rw [cfR, List.pairwise_flatMap]
    refine ⟨fun x _ => ?_, ?_⟩
    · rw [List.pairwise_map]
      refine (cfR_lex n k x).imp ?_
      intro a b h
      rw [cmpL, if_neg (Int.lt_irrefl _), if_neg (Int.lt_irrefl _)]
      exact h
    · refine (List.pairwise_lt_range' (s := f) (n := n - f)).imp ?_
      intro x y hxy a ha b hb
      obtain ⟨a', _, rfl⟩ := List.mem_map.1 ha
      obtain ⟨b', _, rfl⟩ := List.mem_map.1 hb
      rw [cmpL, if_pos (by omega)]
def cfs (n k : Nat) : List (List Int) := cfR n k 0
theorem cfs_mem {n k : Nat} {l : List Int} : l ∈ cfs n k ↔ l.length = k ∧ Pts n l ∧ l.Pairwise (· ≤ ·) := cfR_mem n k 0 l
theorem cfs_len : ∀ n, n ≤ 6 → ∀ k, k ≤ 3 → (cfs n k).length ≤ 56 := by decide
theorem cfs_pos : ∀ n, n ≤ 6 → 1 ≤ n → ∀ k, k ≤ 3 → 1 ≤ (cfs n k).length := by decide
theorem cfs_lt {n k i j : Nat} (hi : i < j) (hj : j < (cfs n k).length) : cmpL ((cfs n k).getD i []) ((cfs n k).getD j []) = -1 := by
  have h := List.pairwise_iff_getElem.1 (cfR_lex n k 0) i j (by unfold cfs at hj; omega) hj hi
  have hi' : i < (cfs n k).length := by omega
  rw [List.getD_eq_getElem?_getD, List.getD_eq_getElem?_getD, List.getElem?_eq_getElem hi', List.getElem?_eq_getElem hj]
  exact h
/-- where a configuration stands -/
def cix (n k : Nat) (l : List Int) : Nat := (cfs n k).idxOf l
theorem cix_lt {n k : Nat} {l : List Int} (h : l ∈ cfs n k) : cix n k l < (cfs n k).length := List.idxOf_lt_length_of_mem h
theorem cix_get {n k : Nat} {l : List Int} (h : l ∈ cfs n k) : (cfs n k).getD (cix n k l) [] = l := by
  rw [List.getD_eq_getElem?_getD, List.getElem?_eq_getElem (cix_lt h)]
  exact List.getElem_idxOf (cix_lt h)
theorem cfs_at {n k i : Nat} (h : i < (cfs n k).length) : (cfs n k).getD i [] ∈ cfs n k := by
  rw [List.getD_eq_getElem?_getD, List.getElem?_eq_getElem h]
  exact List.getElem_mem h
/-- the binary search's question -/
theorem cfs_cmp {n k i : Nat} {l : List Int} (hl : l ∈ cfs n k) (hi : i < (cfs n k).length) : cmpL ((cfs n k).getD i []) l = if i < cix n k l then -1 else if i = cix n k l then 0 else 1 := by
  have h1 := cix_get hl
  have h2 := cix_lt hl
  by_cases h : i < cix n k l
  · rw [if_pos h, ← cfs_lt h h2, h1]
  · rw [if_neg h]
    by_cases e : i = cix n k l
    · rw [if_pos e, e, h1, cmpL_self]
    · rw [if_neg e]
      have := cfs_lt (i := cix n k l) (j := i) (by omega) hi
      rw [h1, ] at this
      have h3 := cmpL_anti l ((cfs n k).getD i [])
      rw [this] at h3
      exact h3

/-- orders of the numbers below k, as both texts make them -/
def orN (k : Nat) (L : List (List Int)) : List (List Int) := L.flatMap fun l => ((List.range k).filter fun (i : Nat) => !(l.contains (i : Int))).map fun (i : Nat) => l ++ [(i : Int)]
def orI (k : Nat) : Nat → List (List Int)
  | 0 => [[]]
  | i + 1 => orN k (orI k i)
def ors (k : Nat) : List (List Int) := orI k k
theorem ors_1 : ors 1 = [[0]] := by decide
theorem ors_2 : ors 2 = [[0, 1], [1, 0]] := by decide
theorem ors_3 : ors 3 = [[0, 1, 2], [0, 2, 1], [1, 0, 2], [1, 2, 0], [2, 0, 1], [2, 1, 0]] := by decide
/-- the cost of a matching, server by server -/
def ocT (d : Int → Int → Int) (a b o : List Int) : Nat → Int
  | 0 => 0
  | j + 1 => ocT d a b o j + d (a.getD j 0) (b.getD (o.getD j 0).toNat 0)
def oc (d : Int → Int → Int) (a b o : List Int) : Int := ocT d a b o a.length
/-- the least of numbers, as the program finds it; as the reference does -/
def lowF (l : List Int) (far : Int) : Int := l.foldl (fun m c => if c < m then c else m) far
def lowN (l : List Int) : Int := l.foldl (fun m c => if m < 0 ∨ c < m then c else m) (-1)
theorem lowF_spec : ∀ (l : List Int) (far : Int), (lowF l far = far ∨ lowF l far ∈ l) ∧ lowF l far ≤ far ∧ ∀ x ∈ l, lowF l far ≤ x
  | [], far => ⟨.inl rfl, Int.le_refl _, by simp⟩
  | c :: l, far => by
    have ih := lowF_spec l (if c < far then c else far)
    have e : lowF (c :: l) far = lowF l (if c < far then c else far) := rfl
    rw [e]
    obtain ⟨h1, h2, h3⟩ := ih
    by_cases h : c < far
    · rw [if_pos h] at h1 h2 h3 ⊢
      refine ⟨.inr ?_, by omega, fun x hx => ?_⟩
      · rcases h1 with h1 | h1
        · rw [h1]; simp
        · exact List.mem_cons_of_mem _ h1
      · rcases List.mem_cons.1 hx with rfl | hx
        · exact h2
        · exact h3 x hx
    · rw [if_neg h] at h1 h2 h3 ⊢
      refine ⟨h1.imp id (List.mem_cons_of_mem _), h2, fun x hx => ?_⟩
      rcases List.mem_cons.1 hx with rfl | hx
      · omega
      · exact h3 x hx
theorem lowF_least {l : List Int} {far c : Int} (h : c ∈ l) (hf : c ≤ far) (hm : ∀ x ∈ l, c ≤ x) : lowF l far = c := by
  obtain ⟨h1, h2, h3⟩ := lowF_spec l far
  have := h3 c h
  rcases h1 with h1 | h1
  · omega
  · have := hm _ h1; omega
theorem lowN_go : ∀ (l : List Int) (m : Int), 0 ≤ m → (∀ x ∈ l, 0 ≤ x) → l.foldl (fun m c => if m < 0 ∨ c < m then c else m) m = lowF l m
  | [], _, _, _ => rfl
  | c :: l, m, hm, h => by
    rw [List.foldl_cons]
    have hc := h c (by simp)
    by_cases hcm : c < m
    · rw [if_pos (.inr hcm), lowN_go l c hc (fun x hx => h x (by simp [hx]))]
      show _ = lowF l (if c < m then c else m)
      rw [if_pos hcm]
    · rw [if_neg (by omega), lowN_go l m hm (fun x hx => h x (by simp [hx]))]
      show _ = lowF l (if c < m then c else m)
      rw [if_neg hcm]
theorem lowN_least {l : List Int} {c : Int} (h : c ∈ l) (h0 : ∀ x ∈ l, 0 ≤ x) (hm : ∀ x ∈ l, c ≤ x) : lowN l = c := by
  cases l with
  | nil => simp at h
  | cons x l =>
    unfold lowN
    rw [List.foldl_cons, if_pos (.inl (by decide)), lowN_go l x (h0 x (by simp)) (fun y hy => h0 y (by simp [hy]))]
    rcases List.mem_cons.1 h with rfl | h
    · obtain ⟨h1, h2, h3⟩ := lowF_spec l c
      rcases h1 with h1 | h1
      · exact h1
      · have := hm _ (List.mem_cons_of_mem _ h1); omega
    · exact lowF_least h (hm x (by simp)) (fun y hy => hm y (by simp [hy]))

theorem len2 {α : Type} {l : List α} (h : l.length = 2) : ∃ a b, l = [a, b] := by
  match l, h with
  | [a, b], _ => exact ⟨a, b, rfl⟩
theorem len3 {α : Type} {l : List α} (h : l.length = 3) : ∃ a b c, l = [a, b, c] := by
  match l, h with
  | [a, b, c], _ => exact ⟨a, b, c, rfl⟩
/-- the lists that two, three numbers in some order are -/
theorem perm1 {l : List Int} {x : Int} (h : l.Perm [x]) : l = [x] := List.perm_singleton.1 h
theorem perm_pull {l t : List Int} {x : Int} (h : l.Perm (x :: t)) : ∃ l1 l2, l = l1 ++ x :: l2 ∧ (l1 ++ l2).Perm t := by
  obtain ⟨l1, l2, rfl⟩ := List.append_of_mem (h.mem_iff.2 (by simp : x ∈ x :: t))
  exact ⟨l1, l2, rfl, (List.perm_middle.symm.trans h).cons_inv⟩
theorem perm2 {l : List Int} {x y : Int} (h : l.Perm [x, y]) : l = [x, y] ∨ l = [y, x] := by
  obtain ⟨l1, l2, rfl, h2⟩ := perm_pull h
  have e := perm1 h2
  cases l1 with
  | nil => simp at e; subst e; simp
  | cons a l1 =>
    simp only [List.cons_append, List.cons.injEq, List.append_eq_nil_iff] at e
    obtain ⟨rfl, rfl, rfl⟩ := e
    simp
theorem perm3 {l : List Int} {x y z : Int} (h : l.Perm [x, y, z]) : l = [x, y, z] ∨ l = [x, z, y] ∨ l = [y, x, z] ∨ l = [y, z, x] ∨ l = [z, x, y] ∨ l = [z, y, x] := by
  obtain ⟨l1, l2, rfl, h2⟩ := perm_pull h
  rcases perm2 h2 with e | e
  · cases l1 with
    | nil => simp at e; subst e; simp
    | cons a l1 =>
      cases l1 with
      | nil => simp only [List.cons_append, List.nil_append, List.cons.injEq] at e; obtain ⟨rfl, rfl⟩ := e; simp
      | cons b l1 =>
        simp only [List.cons_append, List.cons.injEq, List.append_eq_nil_iff] at e
        obtain ⟨rfl, rfl, rfl, rfl⟩ := e; simp
  · cases l1 with
    | nil => simp at e; subst e; simp
    | cons a l1 =>
      cases l1 with
      | nil => simp only [List.cons_append, List.nil_append, List.cons.injEq] at e; obtain ⟨rfl, rfl⟩ := e; simp
      | cons b l1 =>
        simp only [List.cons_append, List.cons.injEq, List.append_eq_nil_iff] at e
        obtain ⟨rfl, rfl, rfl, rfl⟩ := e; simp

/-- what the order o sends the second list to -/
theorem zip_cost (d : Int → Int → Int) (a b o : List Int) : ∀ j, j ≤ a.length → ocT d a b o j = cosP d ((List.range j).map fun i => (a.getD i 0, b.getD (o.getD i 0).toNat 0))
  | 0, _ => rfl
  | j + 1, h => by
    rw [ocT, zip_cost d a b o j (by omega), List.range_succ, List.map_append]
    simp [cosP]
theorem mat_order {a b o : List Int} (hl : a.length = b.length) (hk : 1 ≤ a.length ∧ a.length ≤ 3) (ho : o ∈ ors a.length) : Mat a b ((List.range a.length).map fun i => (a.getD i 0, b.getD (o.getD i 0).toNat 0)) := by
  obtain h | h | h : a.length = 1 ∨ a.length = 2 ∨ a.length = 3 := by omega
  · rw [h] at hl ho ⊢
    obtain ⟨x, rfl⟩ := List.length_eq_one_iff.1 h
    obtain ⟨y, rfl⟩ := List.length_eq_one_iff.1 hl.symm
    rw [ors_1] at ho
    simp only [List.mem_singleton] at ho
    subst ho
    exact ⟨.refl _, .refl _⟩
  · rw [h] at hl ho ⊢
    obtain ⟨x, x', rfl⟩ := len2 h
    obtain ⟨y, y', rfl⟩ := len2 hl.symm
    rw [ors_2] at ho
    simp only [List.mem_cons, List.not_mem_nil, or_false] at ho
    rcases ho with rfl | rfl
    · exact ⟨.refl _, .refl _⟩
    · exact ⟨.refl _, .swap _ _ _⟩
  · rw [h] at hl ho ⊢
    obtain ⟨x, x', x'', rfl⟩ := len3 h
    obtain ⟨y, y', y'', rfl⟩ := len3 hl.symm
    rw [ors_3] at ho
    simp only [List.mem_cons, List.not_mem_nil, or_false] at ho
    have p23 : ∀ p q r : Int, List.Perm [p, r, q] [p, q, r] := fun p q r => (List.Perm.swap _ _ _).cons p
    have p12 : ∀ p q r : Int, List.Perm [q, p, r] [p, q, r] := fun p q r => .swap _ _ _
    rcases ho with rfl | rfl | rfl | rfl | rfl | rfl
    · exact ⟨.refl _, .refl _⟩
    · exact ⟨.refl _, p23 y y' y''⟩
    · exact ⟨.refl _, p12 y y' y''⟩
    · exact ⟨.refl _, (p23 y' y y'').trans (p12 y y' y'')⟩
    · exact ⟨.refl _, (p12 y y'' y').trans (p23 y y' y'')⟩
    · exact ⟨.refl _, ((p23 y'' y y').trans (p12 y y'' y')).trans (p23 y y' y'')⟩
theorem order_mat {d : Int → Int → Int} {a b : List Int} {P : List (Int × Int)} (hl : a.length = b.length) (hk : 1 ≤ a.length ∧ a.length ≤ 3) (h : Mat a b P) : ∃ o ∈ ors a.length, oc d a b o = cosP d P := by
  obtain ⟨Q, q1, q2⟩ := perm_lift Prod.fst h.1 P rfl
  have qb : (Q.map Prod.snd).Perm b := (q1.map _).trans h.2
  rw [← cosP_perm q1]
  have hQl : Q.length = a.length := by rw [← q2]; simp
  obtain hh | hh | hh : a.length = 1 ∨ a.length = 2 ∨ a.length = 3 := by omega
  · obtain ⟨x, rfl⟩ := List.length_eq_one_iff.1 hh
    obtain ⟨y, rfl⟩ := List.length_eq_one_iff.1 (by rw [← hl, hh])
    obtain ⟨p, rfl⟩ := List.length_eq_one_iff.1 (hQl.trans hh)
    have := perm1 qb
    simp only [List.map_cons, List.map_nil, List.cons.injEq, and_true] at this q2
    refine ⟨[0], by rw [hh, ors_1]; simp, ?_⟩
    simp [oc, ocT, cosP, this, q2]
  · obtain ⟨x, x', rfl⟩ := len2 hh
    obtain ⟨y, y', rfl⟩ := len2 (hl.symm.trans hh)
    obtain ⟨p, p', rfl⟩ := len2 (hQl.trans hh)
    simp only [List.map_cons, List.map_nil, List.cons.injEq, and_true] at q2
    rcases perm2 qb with e | e
    · refine ⟨[0, 1], by rw [hh, ors_2]; simp, ?_⟩
      simp only [List.map_cons, List.map_nil, List.cons.injEq, and_true] at e
      simp [oc, ocT, cosP, e, q2]
    · refine ⟨[1, 0], by rw [hh, ors_2]; simp, ?_⟩
      simp only [List.map_cons, List.map_nil, List.cons.injEq, and_true] at e
      simp [oc, ocT, cosP, e, q2]
  · obtain ⟨x, x', x'', rfl⟩ := len3 hh
    obtain ⟨y, y', y'', rfl⟩ := len3 (hl.symm.trans hh)
    obtain ⟨p, p', p'', rfl⟩ := len3 (hQl.trans hh)
    simp only [List.map_cons, List.map_nil, List.cons.injEq, and_true] at q2
    rcases perm3 qb with e | e | e | e | e | e <;> simp only [List.map_cons, List.map_nil, List.cons.injEq, and_true] at e
    · exact ⟨[0, 1, 2], by rw [hh, ors_3]; simp, by simp [oc, ocT, cosP, e, q2]; omega⟩
    · exact ⟨[0, 2, 1], by rw [hh, ors_3]; simp, by simp [oc, ocT, cosP, e, q2]; omega⟩
    · exact ⟨[1, 0, 2], by rw [hh, ors_3]; simp, by simp [oc, ocT, cosP, e, q2]; omega⟩
    · exact ⟨[1, 2, 0], by rw [hh, ors_3]; simp, by simp [oc, ocT, cosP, e, q2]; omega⟩
    · exact ⟨[2, 0, 1], by rw [hh, ors_3]; simp, by simp [oc, ocT, cosP, e, q2]; omega⟩
    · exact ⟨[2, 1, 0], by rw [hh, ors_3]; simp, by simp [oc, ocT, cosP, e, q2]; omega⟩
/-- the cost of a move, as both reckon it -/
def mvF (d : Int → Int → Int) (a b : List Int) : Int := lowF ((ors a.length).map (oc d a b)) 1073741824
def mvN (d : Int → Int → Int) (a b : List Int) : Int := lowN ((ors a.length).map (oc d a b))
theorem mv_ex (d : Int → Int → Int) {a b : List Int} (hl : a.length = b.length) (hk : 1 ≤ a.length ∧ a.length ≤ 3) : ∃ c, c ∈ (ors a.length).map (oc d a b) ∧ IsMv d a b c ∧ ∀ x ∈ (ors a.length).map (oc d a b), c ≤ x := by
  have hne : (ors a.length).map (oc d a b) ≠ [] := by
    obtain h | h | h : a.length = 1 ∨ a.length = 2 ∨ a.length = 3 := by omega
    · rw [h, ors_1]; simp
    · rw [h, ors_2]; simp
    · rw [h, ors_3]; simp
  obtain ⟨y, L, hL⟩ := List.exists_cons_of_ne_nil hne
  have hs := lowF_spec L y
  have hc : lowF L y ∈ (ors a.length).map (oc d a b) := by
    rw [hL]
    rcases hs.1 with h | h
    · rw [h]; simp
    · exact List.mem_cons_of_mem _ h
  have hm : ∀ x ∈ (ors a.length).map (oc d a b), lowF L y ≤ x := by
    rw [hL]
    intro x hx
    rcases List.mem_cons.1 hx with rfl | hx
    · exact hs.2.1
    · exact hs.2.2 x hx
  refine ⟨lowF L y, hc, ⟨?_, fun P hP => ?_⟩, hm⟩
  · obtain ⟨o, ho, he⟩ := List.mem_map.1 hc
    exact ⟨_, mat_order hl hk ho, by rw [← he, oc, zip_cost d a b o _ (Nat.le_refl _)]⟩
  · obtain ⟨o, ho, he⟩ := order_mat (d := d) hl hk hP
    rw [← he]
    exact hm _ (List.mem_map_of_mem ho)
/-- distances that are small -/
def Small (n : Int) (d : Int → Int → Int) : Prop := ∀ x y, 0 ≤ x → x < n → 0 ≤ y → y < n → d x y ≤ 99
theorem cosP_le {n : Int} {d : Int → Int → Int} (hd : Small n d) : ∀ P : List (Int × Int), (∀ p ∈ P, (0 ≤ p.1 ∧ p.1 < n) ∧ 0 ≤ p.2 ∧ p.2 < n) → cosP d P ≤ 99 * P.length
  | [], _ => by simp [cosP]
  | p :: P, h => by
    have hp := h p (by simp)
    have := cosP_le hd P (fun q hq => h q (by simp [hq]))
    have := hd p.1 p.2 hp.1.1 hp.1.2 hp.2.1 hp.2.2
    rw [cosP_cons, List.length_cons]
    omega
theorem mv_is {n : Int} {d : Int → Int → Int} (hd : MetD n d) (hs : Small n d) {a b : List Int} (hl : a.length = b.length) (hk : 1 ≤ a.length ∧ a.length ≤ 3) (ha : Pts n a) (hb : Pts n b) :
    IsMv d a b (mvF d a b) ∧ mvN d a b = mvF d a b ∧ 0 ≤ mvF d a b ∧ mvF d a b ≤ 297 := by
  obtain ⟨c, h1, h2, h3⟩ := mv_ex d hl hk
  have hlo : ∀ o ∈ ors a.length, 0 ≤ oc d a b o ∧ oc d a b o ≤ 297 := fun o ho => by
    have m := mat_order hl hk ho
    have p := m.pts ha hb
    have e : oc d a b o = _ := zip_cost d a b o _ (Nat.le_refl _)
    have q1 := cosP_pos hd _ p
    have q2 := cosP_le hs _ p
    rw [e]
    simp only [List.length_map, List.length_range] at q2
    omega
  have hall : ∀ x ∈ (ors a.length).map (oc d a b), 0 ≤ x ∧ x ≤ 297 := fun x hx => by
    obtain ⟨o, ho, rfl⟩ := List.mem_map.1 hx
    exact hlo o ho
  have hc := hall c h1
  have e1 : mvF d a b = c := lowF_least h1 (by omega) h3
  have e2 : mvN d a b = c := lowN_least h1 (fun x hx => (hall x hx).1) h3
  rw [e1, e2]
  exact ⟨h2, rfl, hc.1, hc.2⟩
end Go.Proofs.YtdgcohoneijleaaGreat
