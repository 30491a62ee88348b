
/- Plain Lean: matchings of two lists of points and their least cost. No program in sight. -/
namespace Go.Proofs.YtdgcohoneijleaaGreat

/-- pairs that match two lists -/
def Mat (a b : List Int) (P : List (Int × Int)) : Prop := (P.map Prod.fst).Perm a ∧ (P.map Prod.snd).Perm b
def cosP (d : Int → Int → Int) (P : List (Int × Int)) : Int := (P.map fun p => d p.1 p.2).sum
/-- the least cost of a matching -/
def IsMv (d : Int → Int → Int) (a b : List Int) (c : Int) : Prop := (∃ P, Mat a b P ∧ cosP d P = c) ∧ ∀ P, Mat a b P → c ≤ cosP d P
/-- distances of points 0 .. n - 1 -/
structure MetD (n : Int) (d : Int → Int → Int) : Prop where
  self : ∀ x, 0 ≤ x → x < n → d x x = 0
  symm : ∀ x y, 0 ≤ x → x < n → 0 ≤ y → y < n → d x y = d y x
  tri : ∀ x y z, 0 ≤ x → x < n → 0 ≤ y → y < n → 0 ≤ z → z < n → d x z ≤ d x y + d y z
  pos : ∀ x y, 0 ≤ x → x < n → 0 ≤ y → y < n → 0 ≤ d x y
def Pts (n : Int) (a : List Int) : Prop := ∀ x ∈ a, 0 ≤ x ∧ x < n

theorem IsMv.uni {d : Int → Int → Int} {a b : List Int} {c c' : Int} (h : IsMv d a b c) (h' : IsMv d a b c') : c = c' := by
  obtain ⟨⟨P, h1, h2⟩, h3⟩ := h
  obtain ⟨⟨P', h1', h2'⟩, h3'⟩ := h'
  have := h3 P' h1'
  have := h3' P h1
  omega
theorem sum_perm {l m : List Int} (h : l.Perm m) : l.sum = m.sum := by
  induction h with
  | nil => rfl
  | cons x _ ih => simp [ih]
  | swap x y l => simp; omega
  | trans _ _ ih1 ih2 => exact ih1.trans ih2
theorem cosP_perm {d : Int → Int → Int} {P Q : List (Int × Int)} (h : P.Perm Q) : cosP d P = cosP d Q := sum_perm (h.map _)
theorem cosP_cons (d : Int → Int → Int) (p : Int × Int) (P : List (Int × Int)) : cosP d (p :: P) = d p.1 p.2 + cosP d P := by simp [cosP]
theorem Mat.perm {a b a' b' : List Int} {P : List (Int × Int)} (h : Mat a b P) (ha : a.Perm a') (hb : b.Perm b') : Mat a' b' P := ⟨h.1.trans ha, h.2.trans hb⟩
theorem IsMv.perm {d : Int → Int → Int} {a b a' b' : List Int} {c : Int} (h : IsMv d a b c) (ha : a.Perm a') (hb : b.Perm b') : IsMv d a' b' c := by
  obtain ⟨⟨P, h1, h2⟩, h3⟩ := h
  exact ⟨⟨P, h1.perm ha hb, h2⟩, fun Q hQ => h3 Q (hQ.perm ha.symm hb.symm)⟩

/-- pairs put in the order of their first numbers -/
theorem perm_lift {α β : Type} (f : α → β) : ∀ {l m : List β}, l.Perm m → ∀ P : List α, P.map f = l → ∃ Q : List α, Q.Perm P ∧ Q.map f = m := by
  intro l m h
  induction h with
  | nil => intro P hP; exact ⟨P, .refl _, hP⟩
  | cons x _ ih =>
    intro P hP
    cases P with
    | nil => simp at hP
    | cons p P =>
      simp only [List.map_cons, List.cons.injEq] at hP
      obtain ⟨Q, h1, h2⟩ := ih P hP.2
      exact ⟨p :: Q, h1.cons p, by rw [List.map_cons, h2, hP.1]⟩
  | swap x y l =>
    intro P hP
    cases P with
    | nil => simp at hP
    | cons p P =>
      cases P with
      | nil => simp at hP
      | cons q P =>
        simp only [List.map_cons, List.cons.injEq] at hP
        exact ⟨q :: p :: P, .swap p q P, by simp [hP.1, hP.2.1, hP.2.2]⟩
  | trans _ _ ih1 ih2 =>
    intro P hP
    obtain ⟨Q, h1, h2⟩ := ih1 P hP
    obtain ⟨R, h3, h4⟩ := ih2 Q h2
    exact ⟨R, h3.trans h1, h4⟩
theorem Mat.swap {a b : List Int} {P : List (Int × Int)} (h : Mat a b P) : Mat b a (P.map Prod.swap) := by
  unfold Mat
  rw [List.map_map, List.map_map]
  exact ⟨h.2, h.1⟩
theorem Mat.pts {n : Int} {a b : List Int} {P : List (Int × Int)} (h : Mat a b P) (ha : Pts n a) (hb : Pts n b) : ∀ p ∈ P, (0 ≤ p.1 ∧ p.1 < n) ∧ 0 ≤ p.2 ∧ p.2 < n := fun _p hp =>
  ⟨ha _ (h.1.mem_iff.1 (List.mem_map_of_mem hp)), hb _ (h.2.mem_iff.1 (List.mem_map_of_mem hp))⟩
theorem cosP_swap {n : Int} {d : Int → Int → Int} (hd : MetD n d) : ∀ (P : List (Int × Int)), (∀ p ∈ P, (0 ≤ p.1 ∧ p.1 < n) ∧ 0 ≤ p.2 ∧ p.2 < n) → cosP d (P.map Prod.swap) = cosP d P
  | [], _ => rfl
  | p :: P, h => by
    have hp := h p (by simp)
    rw [List.map_cons, cosP_cons, cosP_cons, cosP_swap hd P (fun q hq => h q (by simp [hq]))]
    rw [show d p.swap.1 p.swap.2 = d p.2 p.1 from rfl, hd.symm p.2 p.1 hp.2.1 hp.2.2 hp.1.1 hp.1.2]
theorem IsMv.symm {n : Int} {d : Int → Int → Int} (hd : MetD n d) {a b : List Int} {c : Int} (h : IsMv d a b c) (ha : Pts n a) (hb : Pts n b) : IsMv d b a c := by
  obtain ⟨⟨P, h1, h2⟩, h3⟩ := h
  refine ⟨⟨P.map Prod.swap, h1.swap, by rw [cosP_swap hd P (h1.pts ha hb), h2]⟩, fun Q hQ => ?_⟩
  have := h3 _ hQ.swap
  rwa [cosP_swap hd Q (hQ.pts hb ha)] at this
theorem cosP_pos {n : Int} {d : Int → Int → Int} (hd : MetD n d) : ∀ (P : List (Int × Int)), (∀ p ∈ P, (0 ≤ p.1 ∧ p.1 < n) ∧ 0 ≤ p.2 ∧ p.2 < n) → 0 ≤ cosP d P
  | [], _ => by simp [cosP]
  | p :: P, h => by
    have hp := h p (by simp)
    have := cosP_pos hd P (fun q hq => h q (by simp [hq]))
    have := hd.pos p.1 p.2 hp.1.1 hp.1.2 hp.2.1 hp.2.2
    rw [cosP_cons]; omega
theorem IsMv.pos {n : Int} {d : Int → Int → Int} (hd : MetD n d) {a b : List Int} {c : Int} (h : IsMv d a b c) (ha : Pts n a) (hb : Pts n b) : 0 ≤ c := by
  obtain ⟨⟨P, h1, h2⟩, _⟩ := h
  rw [← h2]; exact cosP_pos hd P (h1.pts ha hb)
/-- one matching behind another one -/
def comP : List (Int × Int) → List (Int × Int) → List (Int × Int)
  | p :: P, q :: Q => (p.1, q.2) :: comP P Q
  | _, _ => []
theorem comP_fst : ∀ (P Q : List (Int × Int)), P.length = Q.length → (comP P Q).map Prod.fst = P.map Prod.fst
  | [], [], _ => rfl
  | [], _ :: _, h => by simp at h
  | _ :: _, [], h => by simp at h
  | p :: P, q :: Q, h => by simp [comP, comP_fst P Q (by simpa using h)]
theorem comP_snd : ∀ (P Q : List (Int × Int)), P.length = Q.length → (comP P Q).map Prod.snd = Q.map Prod.snd
  | [], [], _ => rfl
  | [], _ :: _, h => by simp at h
  | _ :: _, [], h => by simp at h
  | p :: P, q :: Q, h => by simp [comP, comP_snd P Q (by simpa using h)]
theorem comP_cost {n : Int} {d : Int → Int → Int} (hd : MetD n d) : ∀ (P Q : List (Int × Int)), P.map Prod.snd = Q.map Prod.fst → (∀ p ∈ P, (0 ≤ p.1 ∧ p.1 < n) ∧ 0 ≤ p.2 ∧ p.2 < n) → (∀ p ∈ Q, (0 ≤ p.1 ∧ p.1 < n) ∧ 0 ≤ p.2 ∧ p.2 < n) →
    cosP d (comP P Q) ≤ cosP d P + cosP d Q
  | [], [], _, _, _ => by simp [comP, cosP]
  | [], _ :: _, h, _, _ => by simp at h
  | _ :: _, [], h, _, _ => by simp at h
  | p :: P, q :: Q, h, hP, hQ => by
    simp only [List.map_cons, List.cons.injEq] at h
    have ih := comP_cost hd P Q h.2 (fun x hx => hP x (by simp [hx])) (fun x hx => hQ x (by simp [hx]))
    have h1 := hP p (by simp)
    have h2 := hQ q (by simp)
    have h3 := hd.tri p.1 p.2 q.2 h1.1.1 h1.1.2 h1.2.1 h1.2.2 h2.2.1 h2.2.2
    rw [comP, cosP_cons, cosP_cons, cosP_cons]
    have e : d q.1 q.2 = d p.2 q.2 := by rw [h.1]
    simp only [] at *
    omega
theorem IsMv.tri {n : Int} {d : Int → Int → Int} (hd : MetD n d) {a b c : List Int} {u v x : Int} (h1 : IsMv d a b u) (h2 : IsMv d b c v) (h3 : IsMv d a c x) (ha : Pts n a) (hb : Pts n b) (hc : Pts n c) : x ≤ u + v := by
  obtain ⟨⟨P, p1, p2⟩, _⟩ := h1
  obtain ⟨⟨Q, q1, q2⟩, _⟩ := h2
  obtain ⟨R, r1, r2⟩ := perm_lift Prod.fst (q1.1.trans p1.2.symm) Q rfl
  have hl : P.length = R.length := by have := congrArg List.length r2; simpa using this.symm
  have m : Mat a c (comP P R) := by
    refine ⟨?_, ?_⟩
    · rw [comP_fst P R hl]; exact p1.1
    · rw [comP_snd P R hl]; exact (r1.map _).trans q1.2
  have hR : Mat b c R := ⟨(r1.map _).trans q1.1, (r1.map _).trans q1.2⟩
  have := h3.2 _ m
  have h := comP_cost hd P R r2.symm (p1.pts ha hb) (hR.pts hb hc)
  rw [p2, cosP_perm r1, q2] at h
  omega
/-- one server moves -/
theorem mat_set (d : Int → Int → Int) : ∀ (a : List Int) (s : Nat) (r : Int), s < a.length → (∀ x ∈ a, d x x = 0) → ∃ P, Mat a (a.set s r) P ∧ cosP d P = d (a.getD s 0) r := by
  intro a
  induction a with
  | nil => intro s r hs; simp at hs
  | cons x a ih =>
    intro s r hs hx
    cases s with
    | zero =>
      refine ⟨(x, r) :: a.map (fun y => (y, y)), ⟨?_, ?_⟩, ?_⟩
      · simp [List.map_map, Function.comp_def]
      · simp [List.map_map, Function.comp_def]
      · have : cosP d (a.map fun y => (y, y)) = 0 := by
          have : ∀ l : List Int, (∀ x ∈ l, d x x = 0) → cosP d (l.map fun y => (y, y)) = 0 := by
            intro l
            induction l with
            | nil => intro _; rfl
            | cons y l ih => intro h; rw [List.map_cons, cosP_cons, ih (fun z hz => h z (by simp [hz]))]; simpa using h y (by simp)
          exact this a (fun y hy => hx y (by simp [hy]))
        rw [cosP_cons, this]
        simp
    | succ s =>
      obtain ⟨P, h1, h2⟩ := ih s r (by simpa using hs) (fun y hy => hx y (by simp [hy]))
      refine ⟨(x, x) :: P, ⟨?_, ?_⟩, ?_⟩
      · exact h1.1.cons x
      · exact h1.2.cons x
      · rw [cosP_cons, h2]
        have := hx x (by simp)
        simp [this]
/-- a matching that sends a point of the first list to one of the second: the rest is a matching to the second list with that point back -/
theorem mat_pull (d : Int → Int → Int) {a b : List Int} {P : List (Int × Int)} (h : Mat a b P) {r : Int} (hr : r ∈ a) (hrr : d r r = 0) : ∃ s, s < b.length ∧ ∃ Q, Mat a (b.set s r) Q ∧ cosP d P = cosP d Q + d r (b.getD s 0) := by
  obtain ⟨p, hp, hpr⟩ := List.mem_map.1 (h.1.mem_iff.2 hr)
  obtain ⟨R, hR1, hR2⟩ : ∃ R : List (Int × Int), R.map Prod.snd = b ∧ R.Perm P := by
    obtain ⟨R, h1, h2⟩ := perm_lift Prod.snd h.2 P rfl
    exact ⟨R, h2, h1⟩
  have hpR := hR2.mem_iff.2 hp
  obtain ⟨s, hs, he⟩ := List.getElem_of_mem hpR
  have hlen : R.length = b.length := by rw [← hR1]; simp
  have hbs : b.getD s 0 = p.2 := by
    subst hR1
    simp [List.getD_eq_getElem?_getD, hs, he]
  refine ⟨s, by omega, R.set s (r, r), ⟨?_, ?_⟩, ?_⟩
  · have e : (R.set s (r, r)).map Prod.fst = R.map Prod.fst := by
      rw [List.map_set]
      have : r = (R.map Prod.fst)[s]'(by simpa using hs) := by simp [he, hpr]
      simp only []
      conv => lhs; rw [this]
      exact List.set_getElem_self _
    rw [e]; exact (hR2.map _).trans h.1
  · rw [List.map_set, hR1]
  · have key : ∀ (R : List (Int × Int)) (s : Nat) (hs : s < R.length) (q : Int × Int), cosP d (R.set s q) + d R[s].1 R[s].2 = cosP d R + d q.1 q.2 := by
      intro R
      induction R with
      | nil => intro s hs; simp at hs
      | cons x R ih =>
        intro s hs q
        cases s with
        | zero => simp only [List.set_cons_zero, cosP_cons, List.getElem_cons_zero]; omega
        | succ s =>
          have := ih s (by simpa using hs) q
          simp only [List.set_cons_succ, cosP_cons, List.getElem_cons_succ]; omega
    have h1 := key R s hs (r, r)
    rw [he] at h1
    rw [cosP_perm hR2] at h1
    have h2 : d p.1 p.2 = d r (b.getD s 0) := by rw [hbs, hpr]
    simp only [hrr] at h1
    omega
end Go.Proofs.YtdgcohoneijleaaGreat
