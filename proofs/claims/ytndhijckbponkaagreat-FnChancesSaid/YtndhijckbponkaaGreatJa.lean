import Derived.Test.YtndhijckbponkaaGreatBase
/- finite problems and chances, plain: the least expected cost is a bound for every strategy, and BestReply meets it -/
namespace Go.Proofs.YtndhijckbponkaaGreat

structure Pr where
  mv : List (List Int)
  sv : List (List Int)
def mvA (p : Pr) (a b : Nat) : Int := (p.mv.getD a []).getD b 0
def svA (p : Pr) (r s : Nat) : Int := (p.sv.getD r []).getD s 0
def okA (p : Pr) (r s : Nat) : Bool := decide (0 ≤ svA p r s)
def sumK (f : Nat → Int) : Nat → Int
  | 0 => 0
  | k + 1 => sumK f k + f k
theorem sumK_congr {f g : Nat → Int} (k : Nat) (h : ∀ r, r < k → f r = g r) : sumK f k = sumK g k := by
  induction k with
  | zero => rfl
  | succ k ih => simp only [sumK]; rw [ih (fun r hr => h r (by omega)), h k (by omega)]
theorem sumK_le {f g : Nat → Int} (k : Nat) (h : ∀ r, r < k → f r ≤ g r) : sumK f k ≤ sumK g k := by
  induction k with
  | zero => exact Int.le_refl _
  | succ k ih => simp only [sumK]; have := ih (fun r hr => h r (by omega)); have := h k (by omega); omega
theorem sumK_add (f g : Nat → Int) (k : Nat) : sumK (fun r => f r + g r) k = sumK f k + sumK g k := by
  induction k with
  | zero => rfl
  | succ k ih => simp only [sumK]; rw [ih]; omega
theorem sumK_zero (k : Nat) : sumK (fun _ => 0) k = 0 := by
  induction k with
  | zero => rfl
  | succ k ih => simp only [sumK]; rw [ih]; rfl
theorem sumK_one {f : Nat → Int} {k r0 : Nat} (h0 : r0 < k) (h : ∀ r, r < k → r ≠ r0 → f r = 0) : sumK f k = f r0 := by
  induction k with
  | zero => omega
  | succ k ih =>
    simp only [sumK]
    by_cases e : r0 = k
    · subst e
      rw [sumK_congr (g := fun _ => 0) r0 (fun r hr => h r (by omega) (by omega)), sumK_zero]; omega
    · rw [ih (by omega) (fun r hr hne => h r (by omega) hne), h k (by omega) (fun e' => e e'.symm)]; omega
/-- the least of some numbers, with its place; negative if there is none -/
def bl (ok : Nat → Bool) (f : Nat → Int) : Nat → Nat × Int
  | 0 => (0, -1)
  | m + 1 => if ok m && (decide ((bl ok f m).2 < 0) || decide (f m < (bl ok f m).2)) then (m, f m) else bl ok f m
theorem bl_spec {ok : Nat → Bool} {f : Nat → Int} (m : Nat) (hf : ∀ s, s < m → ok s = true → 0 ≤ f s) :
    ((bl ok f m).2 < 0 ∧ ∀ s, s < m → ok s = false) ∨ (0 ≤ (bl ok f m).2 ∧ (bl ok f m).1 < m ∧ ok (bl ok f m).1 = true ∧ (bl ok f m).2 = f (bl ok f m).1 ∧ ∀ s, s < m → ok s = true → (bl ok f m).2 ≤ f s) := by
  induction m with
  | zero => exact .inl ⟨by show (-1 : Int) < 0; omega, fun s hs => absurd hs (Nat.not_lt_zero s)⟩
  | succ m ih =>
    replace ih := ih (fun s hs hok => hf s (by omega) hok)
    unfold bl
    by_cases hc : (ok m && (decide ((bl ok f m).2 < 0) || decide (f m < (bl ok f m).2))) = true
    · rw [if_pos hc]
      simp only [Bool.and_eq_true, Bool.or_eq_true, decide_eq_true_eq] at hc
      refine .inr ⟨hf m (by omega) hc.1, by omega, hc.1, rfl, fun s hs hok => ?_⟩
      show f m ≤ f s
      by_cases e : s = m
      · subst e; exact Int.le_refl _
      · rcases ih with ⟨h1, h2⟩ | ⟨h1, _, _, _, h5⟩
        · rw [h2 s (by omega)] at hok; cases hok
        · have := h5 s (by omega) hok
          rcases hc.2 with h | h <;> omega
    · rw [if_neg hc]
      simp only [Bool.and_eq_true, Bool.or_eq_true, decide_eq_true_eq, not_and, not_or] at hc
      rcases ih with ⟨h1, h2⟩ | ⟨h1, h2, h3, h4, h5⟩
      · refine .inl ⟨h1, fun s hs => ?_⟩
        by_cases e : s = m
        · subst e
          cases hk : ok s
          · rfl
          · exact absurd h1 (hc hk).1
        · exact h2 s (by omega)
      · refine .inr ⟨h1, by omega, h3, h4, fun s hs hok => ?_⟩
        by_cases e : s = m
        · subst e
          have := (hc hok).2
          omega
        · exact h5 s (by omega) hok
/-- sequences with their weights -/
abbrev Chs := List (List Int × Int)
def wS : Chs → List Int → Int
  | [], _ => 0
  | (q, w) :: cs, seen => (if seen.isPrefixOf q then w else 0) + wS cs seen
/-- the least expected cost of n more requests behind some, times the weights -/
def ahead (p : Pr) (cs : Chs) : Nat → Nat → List Int → Int
  | 0, _, _ => 0
  | n + 1, s, seen => sumK (fun r => if 0 < wS cs (seen ++ [(r : Int)]) then (bl (okA p r) (fun s' => wS cs (seen ++ [(r : Int)]) * (mvA p s s' + svA p r s') + ahead p cs n s' (seen ++ [(r : Int)])) p.mv.length).2 else 0) p.sv.length
/-- what a strategy pays for the rest of a sequence: it knows the state and what was asked -/
def rest (p : Pr) (τ : Nat → List Int → Nat) : Nat → List Int → List Int → Int
  | _, _, [] => 0
  | s, seen, r :: l => mvA p s (τ s (seen ++ [r])) + svA p r.toNat (τ s (seen ++ [r])) + rest p τ (τ s (seen ++ [r])) (seen ++ [r]) l
def part (p : Pr) (τ : Nat → List Int → Nat) (s : Nat) (seen : List Int) : Chs → Int
  | [] => 0
  | (q, w) :: cs => (if seen.isPrefixOf q then w * rest p τ s seen (q.drop seen.length) else 0) + part p τ s seen cs
/-- all sequences have one length, their requests are below k, the weights are positive -/
def ChB (k L : Nat) (cs : Chs) : Prop := ∀ x ∈ cs, x.1.length = L ∧ (∀ r ∈ x.1, 0 ≤ r ∧ r < (k : Int)) ∧ 0 < x.2
theorem prefix_snoc {seen q : List Int} {r : Int} (h : seen.isPrefixOf q = true) (hl : seen.length < q.length) : ((seen ++ [r]).isPrefixOf q = true) ↔ q.getD seen.length 0 = r := by
  rw [List.isPrefixOf_iff_prefix] at h
  rw [List.isPrefixOf_iff_prefix]
  obtain ⟨t, rfl⟩ := h
  cases t with
  | nil => simp at hl
  | cons a t =>
    have e : (seen ++ a :: t).getD seen.length 0 = a := by simp [List.getD_eq_getElem?_getD]
    rw [e, List.prefix_append_right_inj]
    constructor
    · intro h; obtain ⟨u, hu⟩ := h; simp at hu; exact hu.1.symm
    · intro h; subst h; exact ⟨t, rfl⟩
theorem prefix_snoc_no {seen q : List Int} {r : Int} (h : seen.isPrefixOf q = false) : (seen ++ [r]).isPrefixOf q = false := by
  cases e : (seen ++ [r]).isPrefixOf q
  · rfl
  · rw [List.isPrefixOf_iff_prefix] at e
    have h2 : seen.isPrefixOf q = true := by
      rw [List.isPrefixOf_iff_prefix]
      exact List.IsPrefix.trans (List.prefix_append seen [r]) e
    rw [h2] at h; cases h
theorem part_split (p : Pr) (τ : Nat → List Int → Nat) (s : Nat) (seen : List Int) (k L : Nat) : ∀ (cs : Chs), ChB k L cs → seen.length < L →
    part p τ s seen cs = sumK (fun r => wS cs (seen ++ [(r : Int)]) * (mvA p s (τ s (seen ++ [(r : Int)])) + svA p r (τ s (seen ++ [(r : Int)]))) + part p τ (τ s (seen ++ [(r : Int)])) (seen ++ [(r : Int)]) cs) k
  | [], _, _ => by
    rw [sumK_congr (g := fun _ => 0) k (fun r _ => by simp [wS, part]), sumK_zero]; rfl
  | (q, w) :: cs, h, hl => by
    have ih := part_split p τ s seen k L cs (fun x hx => h x (List.mem_cons_of_mem _ hx)) hl
    obtain ⟨hq, hr, hw⟩ := h (q, w) (List.mem_cons_self ..)
    simp only at hq hr hw
    have hterm : ∀ r : Nat, wS ((q, w) :: cs) (seen ++ [(r : Int)]) * (mvA p s (τ s (seen ++ [(r : Int)])) + svA p r (τ s (seen ++ [(r : Int)]))) + part p τ (τ s (seen ++ [(r : Int)])) (seen ++ [(r : Int)]) ((q, w) :: cs)
        = (if (seen ++ [(r : Int)]).isPrefixOf q then w * (mvA p s (τ s (seen ++ [(r : Int)])) + svA p r (τ s (seen ++ [(r : Int)]))) + w * rest p τ (τ s (seen ++ [(r : Int)])) (seen ++ [(r : Int)]) (q.drop (seen ++ [(r : Int)]).length) else 0)
          + (wS cs (seen ++ [(r : Int)]) * (mvA p s (τ s (seen ++ [(r : Int)])) + svA p r (τ s (seen ++ [(r : Int)]))) + part p τ (τ s (seen ++ [(r : Int)])) (seen ++ [(r : Int)]) cs) := fun r => by
      simp only [wS, part]
      split
      · rw [Int.add_mul]; omega
      · rw [Int.zero_add, Int.zero_add, Int.zero_add]
    rw [sumK_congr k (fun r _ => hterm r), sumK_add, ← ih]
    show _ + part p τ s seen cs = _
    congr 1
    cases hp : seen.isPrefixOf q
    · rw [sumK_congr (g := fun _ => 0) k (fun r _ => by rw [prefix_snoc_no hp]; rfl), sumK_zero]; rfl
    · have hlt : seen.length < q.length := by omega
      obtain ⟨x, hx⟩ : ∃ x, q.getD seen.length 0 = x := ⟨_, rfl⟩
      have hxm : x ∈ q := by
        rw [← hx, List.getD_eq_getElem?_getD, List.getElem?_eq_getElem hlt]
        exact List.getElem_mem hlt
      obtain ⟨hx0, hxk⟩ := hr x hxm
      obtain ⟨r0, rfl⟩ : ∃ r0 : Nat, x = (r0 : Int) := ⟨x.toNat, by omega⟩
      rw [sumK_one (r0 := r0) (by omega) (fun r hrk hne => by
        cases e : (seen ++ [(r : Int)]).isPrefixOf q
        · rfl
        · have := (prefix_snoc hp hlt).1 e
          rw [hx] at this; omega)]
      rw [(prefix_snoc hp hlt).2 hx]
      simp only [if_true]
      have hd : q.drop seen.length = (r0 : Int) :: q.drop (seen ++ [(r0 : Int)]).length := by
        rw [List.drop_eq_getElem_cons hlt, List.length_append]
        congr 1
        rw [← hx, List.getD_eq_getElem?_getD, List.getElem?_eq_getElem hlt]; rfl
      rw [hd]
      simp only [rest, Int.toNat_natCast]
      rw [Int.mul_add w (mvA p s _ + _)]
theorem wS_nn {k L : Nat} : ∀ {cs : Chs}, ChB k L cs → ∀ seen, 0 ≤ wS cs seen
  | [], _, _ => Int.le_refl _
  | (q, w) :: cs, h, seen => by
    have ih := wS_nn (fun x hx => h x (List.mem_cons_of_mem _ hx)) seen
    have hw := (h (q, w) (List.mem_cons_self ..)).2.2
    simp only at hw
    simp only [wS]
    split <;> omega
theorem wS_zero {k L : Nat} (p : Pr) (τ : Nat → List Int → Nat) (s : Nat) : ∀ {cs : Chs}, ChB k L cs → ∀ seen, wS cs seen = 0 → part p τ s seen cs = 0
  | [], _, _, _ => rfl
  | (q, w) :: cs, h, seen, h0 => by
    have hc : ChB k L cs := fun x hx => h x (List.mem_cons_of_mem _ hx)
    have hn := wS_nn hc seen
    have hw := (h (q, w) (List.mem_cons_self ..)).2.2
    simp only at hw
    simp only [wS] at h0
    simp only [part]
    split
    · rename_i hp
      rw [if_pos hp] at h0; omega
    · rename_i hp
      rw [if_neg hp] at h0
      rw [wS_zero p τ s hc seen (by omega)]; rfl
theorem part_end {k L : Nat} (p : Pr) (τ : Nat → List Int → Nat) (s : Nat) (seen : List Int) (hl : seen.length = L) : ∀ {cs : Chs}, ChB k L cs → part p τ s seen cs = 0
  | [], _ => rfl
  | (q, w) :: cs, h => by
    have hq := (h (q, w) (List.mem_cons_self ..)).1
    simp only at hq
    have hd : q.drop seen.length = [] := List.drop_eq_nil_of_le (by omega)
    simp only [part]
    rw [part_end p τ s seen hl (fun x hx => h x (List.mem_cons_of_mem _ hx)), hd]
    split <;> simp [rest]
/-- costs are not negative, each request can be served -/
def PrB (p : Pr) : Prop := (∀ a b, a < p.mv.length → b < p.mv.length → 0 ≤ mvA p a b) ∧ ∀ r, r < p.sv.length → ∃ s, s < p.mv.length ∧ okA p r s = true
/-- a strategy that goes to states in which the request can be served -/
def TauB (p : Pr) (τ : Nat → List Int → Nat) : Prop := ∀ s (seen : List Int) (r : Nat), s < p.mv.length → r < p.sv.length → τ s (seen ++ [(r : Int)]) < p.mv.length ∧ okA p r (τ s (seen ++ [(r : Int)])) = true
theorem ahead_nn {p : Pr} (hp : PrB p) {cs : Chs} {L : Nat} (hc : ChB p.sv.length L cs) : ∀ (n s : Nat) (seen : List Int), s < p.mv.length → 0 ≤ ahead p cs n s seen
  | 0, _, _, _ => Int.le_refl _
  | n + 1, s, seen, hs => by
    unfold ahead
    have h0 := sumK_zero p.sv.length
    refine Int.le_trans (Int.le_of_eq h0.symm) (sumK_le _ (fun r hr => ?_))
    split
    · rename_i hw
      have hb := bl_spec (ok := okA p r) (f := fun s' => wS cs (seen ++ [(r : Int)]) * (mvA p s s' + svA p r s') + ahead p cs n s' (seen ++ [(r : Int)])) p.mv.length (fun s' hs' hok => by
        have h1 := hp.1 s s' hs hs'
        have h2 : 0 ≤ svA p r s' := by unfold okA at hok; simpa using hok
        have h3 := ahead_nn hp hc n s' (seen ++ [(r : Int)]) hs'
        have h4 := Int.mul_nonneg (Int.le_of_lt hw) (show 0 ≤ mvA p s s' + svA p r s' by omega)
        omega)
      obtain ⟨x, hx, hxo⟩ := hp.2 r hr
      rcases hb with ⟨_, h2⟩ | ⟨h1, _⟩
      · rw [h2 x hx] at hxo; cases hxo
      · exact h1
    · exact Int.le_refl _
/-- the numbers that are compared -/
theorem reply_spec {p : Pr} (hp : PrB p) {cs : Chs} {L : Nat} (hc : ChB p.sv.length L cs) (n s : Nat) (more : List Int) (r : Nat) (hs : s < p.mv.length) (hr : r < p.sv.length) :
    (bl (okA p r) (fun s' => wS cs more * (mvA p s s' + svA p r s') + ahead p cs n s' more) p.mv.length).1 < p.mv.length ∧ okA p r (bl (okA p r) (fun s' => wS cs more * (mvA p s s' + svA p r s') + ahead p cs n s' more) p.mv.length).1 = true ∧
    (bl (okA p r) (fun s' => wS cs more * (mvA p s s' + svA p r s') + ahead p cs n s' more) p.mv.length).2 = wS cs more * (mvA p s (bl (okA p r) (fun s' => wS cs more * (mvA p s s' + svA p r s') + ahead p cs n s' more) p.mv.length).1 + svA p r (bl (okA p r) (fun s' => wS cs more * (mvA p s s' + svA p r s') + ahead p cs n s' more) p.mv.length).1) + ahead p cs n (bl (okA p r) (fun s' => wS cs more * (mvA p s s' + svA p r s') + ahead p cs n s' more) p.mv.length).1 more ∧
    ∀ x, x < p.mv.length → okA p r x = true → (bl (okA p r) (fun s' => wS cs more * (mvA p s s' + svA p r s') + ahead p cs n s' more) p.mv.length).2 ≤ wS cs more * (mvA p s x + svA p r x) + ahead p cs n x more := by
  have hb := bl_spec (ok := okA p r) (f := fun s' => wS cs more * (mvA p s s' + svA p r s') + ahead p cs n s' more) p.mv.length (fun s' hs' hok => by
    have h1 := hp.1 s s' hs hs'
    have h2 : 0 ≤ svA p r s' := by unfold okA at hok; simpa using hok
    have h3 := ahead_nn hp hc n s' more hs'
    have h4 := Int.mul_nonneg (wS_nn hc more) (show 0 ≤ mvA p s s' + svA p r s' by omega)
    omega)
  obtain ⟨x, hx, hxo⟩ := hp.2 r hr
  rcases hb with ⟨_, h2⟩ | ⟨_, h2, h3, h4, h5⟩
  · rw [h2 x hx] at hxo; cases hxo
  · exact ⟨h2, h3, h4, h5⟩
/-- no strategy pays less -/
theorem ahead_le {p : Pr} (hp : PrB p) {cs : Chs} {L : Nat} (hc : ChB p.sv.length L cs) {τ : Nat → List Int → Nat} (ht : TauB p τ) : ∀ (n s : Nat) (seen : List Int), s < p.mv.length → seen.length + n = L → ahead p cs n s seen ≤ part p τ s seen cs
  | 0, s, seen, _, hl => by rw [part_end p τ s seen (by omega) hc]; exact Int.le_refl _
  | n + 1, s, seen, hs, hl => by
    rw [part_split p τ s seen p.sv.length L cs hc (by omega)]
    unfold ahead
    refine sumK_le _ (fun r hr => ?_)
    obtain ⟨ht1, ht2⟩ := ht s seen r hs hr
    split
    · obtain ⟨_, _, _, h5⟩ := reply_spec hp hc n s (seen ++ [(r : Int)]) r hs hr
      have h6 := h5 _ ht1 ht2
      have h7 := ahead_le hp hc ht n (τ s (seen ++ [(r : Int)])) (seen ++ [(r : Int)]) ht1 (by rw [List.length_append]; simp; omega)
      omega
    · rename_i hw
      have h0 : wS cs (seen ++ [(r : Int)]) = 0 := by have := wS_nn hc (seen ++ [(r : Int)]); omega
      rw [wS_zero p τ _ hc _ h0, h0, Int.zero_mul]
      exact Int.le_refl _
/-- the best reply to what was asked -/
def bestR (p : Pr) (cs : Chs) (L : Nat) (s : Nat) (more : List Int) : Nat :=
  (bl (okA p (more.getLastD 0).toNat) (fun s' => wS cs more * (mvA p s s' + svA p (more.getLastD 0).toNat s') + ahead p cs (L - more.length) s' more) p.mv.length).1
theorem last_snoc (seen : List Int) (r : Nat) : ((seen ++ [(r : Int)]).getLastD 0).toNat = r := by
  rw [List.getLastD_eq_getLast?]; simp
theorem bestR_tau {p : Pr} (hp : PrB p) {cs : Chs} {L : Nat} (hc : ChB p.sv.length L cs) : TauB p (bestR p cs L) := fun s seen r hs hr => by
  unfold bestR
  rw [last_snoc]
  obtain ⟨h1, h2, _⟩ := reply_spec hp hc (L - (seen ++ [(r : Int)]).length) s (seen ++ [(r : Int)]) r hs hr
  exact ⟨h1, h2⟩
/-- and the best replies pay just that -/
theorem ahead_best {p : Pr} (hp : PrB p) {cs : Chs} {L : Nat} (hc : ChB p.sv.length L cs) : ∀ (n s : Nat) (seen : List Int), s < p.mv.length → seen.length + n = L → ahead p cs n s seen = part p (bestR p cs L) s seen cs
  | 0, s, seen, _, hl => by rw [part_end p _ s seen (by omega) hc]; rfl
  | n + 1, s, seen, hs, hl => by
    rw [part_split p _ s seen p.sv.length L cs hc (by omega)]
    unfold ahead
    refine sumK_congr _ (fun r hr => ?_)
    have hn : L - (seen ++ [(r : Int)]).length = n := by rw [List.length_append]; simp; omega
    obtain ⟨hb1, hb2⟩ := bestR_tau hp hc s seen r hs hr
    split
    · obtain ⟨_, _, h4, _⟩ := reply_spec hp hc n s (seen ++ [(r : Int)]) r hs hr
      have hE : bestR p cs L s (seen ++ [(r : Int)]) = (bl (okA p r) (fun s' => wS cs (seen ++ [(r : Int)]) * (mvA p s s' + svA p r s') + ahead p cs n s' (seen ++ [(r : Int)])) p.mv.length).1 := by
        unfold bestR
        rw [last_snoc, hn]
      rw [h4, ← hE, ahead_best hp hc n _ _ hb1 (by rw [List.length_append]; simp; omega)]
    · rename_i hw
      have h0 : wS cs (seen ++ [(r : Int)]) = 0 := by have := wS_nn hc (seen ++ [(r : Int)]); omega
      rw [wS_zero p _ _ hc _ h0, h0, Int.zero_mul]
      rfl
end Go.Proofs.YtndhijckbponkaaGreat
