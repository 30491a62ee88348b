import Derived.Test.YtndhijckbponkaaPi
/- the reference's best replies -/
namespace Go.Proofs.Ytndhijckbponkaa
open Go.RowKit

/-- what is compared -/
def aF (p : Pr) (cs : Chs) (n s r : Nat) (more : List Int) : Nat → Int := fun s' => wS cs more * (mvA p s s' + svA p r s') + ahead p cs n s' more
def aG (p : Pr) (cs : Chs) (n s : Nat) (seen : List Int) : Nat → Int := fun r => if 0 < wS cs (seen ++ [(r : Int)]) then (bl (okA p r) (aF p cs n s r (seen ++ [(r : Int)])) p.mv.length).2 else 0
theorem ahead_aG (p : Pr) (cs : Chs) (n s : Nat) (seen : List Int) : ahead p cs (n + 1) s seen = sumK (aG p cs n s seen) p.sv.length := rfl
/-- a valid Problem with valid Chances -/
structure Gd (p : Pr) (qs : List (List Int)) (ws : List Int) (L : Nat) : Prop where
  pr : PrP p
  q0 : 0 < qs.length ∧ qs.length ≤ 12
  len : ws.length = qs.length
  w9 : ∀ i, i < qs.length → 0 ≤ ws.getD i 0 ∧ ws.getD i 0 ≤ 9
  l0 : (qs.getD 0 []).length = L
  l6 : L ≤ 6
  cb : ChB p.sv.length L (qs.zip ws)
  wle : ∀ seen, wS (qs.zip ws) seen ≤ 108
theorem Gd.of {p : Pr} {qs : List (List Int)} {ws : List Int} (hp : PrP p) (hc : ChP p.sv.length 12 6 qs ws) : Gd p qs ws (qs.getD 0 []).length := by
  refine ⟨hp, hc.1, hc.2.1, fun i hi => ?_, rfl, hc.len, hc.chB, fun seen => ?_⟩
  · have hi' : i < ws.length := by have := hc.2.1; omega
    have := hc.2.2.1 (ws.getD i 0) (by rw [List.getD_eq_getElem?_getD, List.getElem?_eq_getElem hi']; exact List.getElem_mem _)
    omega
  · have := wS_le9 qs ws seen hc.2.2.1
    have := hc.1.2
    omega
section
variable {p : Pr} {qs : List (List Int)} {ws : List Int} {L : Nat}
theorem Gd.w0 (g : Gd p qs ws L) (seen : List Int) : 0 ≤ wS (qs.zip ws) seen ∧ wS (qs.zip ws) seen ≤ 108 := ⟨wS_nn g.cb seen, g.wle seen⟩
theorem Gd.ah (g : Gd p qs ws L) {n s : Nat} (hn : n ≤ 6) (hs : s < p.mv.length) (seen : List Int) : 0 ≤ ahead p (qs.zip ws) n s seen ∧ ahead p (qs.zip ws) n s seen ≤ 77112 := by
  refine ⟨ahead_nn g.pr.prB g.cb n s seen hs, ?_⟩
  have h1 := ahead_bound g.pr.prB g.cb (C := 119) (by omega) g.pr.cost n s seen hs
  obtain ⟨h2, h3⟩ := g.w0 seen
  have h4 : (119 : Int) * n * wS (qs.zip ws) seen ≤ 119 * 6 * 108 := by
    have h5 : (119 : Int) * n * wS (qs.zip ws) seen ≤ 119 * n * 108 := Int.mul_le_mul_of_nonneg_left h3 (by omega)
    have h6 : (119 : Int) * n * 108 ≤ 119 * 6 * 108 := by omega
    omega
  omega
theorem Gd.cs (g : Gd p qs ws L) {x y r : Nat} (hx : x < p.mv.length) (hy : y < p.mv.length) (hr : r < p.sv.length) (ho : okA p r y = true) : 0 ≤ mvA p x y + svA p r y ∧ mvA p x y + svA p r y ≤ 119 := by
  have h1 := g.pr.mv_in hx hy
  have h2 := g.pr.cost x y r hx hy hr
  have h3 : 0 ≤ svA p r y := by unfold okA at ho; simpa using ho
  omega
theorem Gd.wc (g : Gd p qs ws L) {x y r : Nat} (hx : x < p.mv.length) (hy : y < p.mv.length) (hr : r < p.sv.length) (ho : okA p r y = true) (seen : List Int) :
    0 ≤ wS (qs.zip ws) seen * (mvA p x y + svA p r y) ∧ wS (qs.zip ws) seen * (mvA p x y + svA p r y) ≤ 12852 := by
  obtain ⟨h1, h2⟩ := g.w0 seen
  obtain ⟨h3, h4⟩ := g.cs hx hy hr ho
  refine ⟨Int.mul_nonneg h1 h3, ?_⟩
  have h5 : wS (qs.zip ws) seen * (mvA p x y + svA p r y) ≤ wS (qs.zip ws) seen * 119 := Int.mul_le_mul_of_nonneg_left h4 h1
  omega
theorem Gd.aF_in (g : Gd p qs ws L) {n s r y : Nat} (hn : n ≤ 6) (hs : s < p.mv.length) (hr : r < p.sv.length) (more : List Int) (hy : y < p.mv.length) (ho : okA p r y = true) : 0 ≤ aF p (qs.zip ws) n s r more y ∧ aF p (qs.zip ws) n s r more y ≤ 89964 := by
  have h1 := g.wc hs hy hr ho more
  have h2 := g.ah hn hy more
  unfold aF
  omega
theorem Gd.bl_in (g : Gd p qs ws L) {n s r : Nat} (hn : n ≤ 6) (hs : s < p.mv.length) (hr : r < p.sv.length) (more : List Int) : ∀ m, m ≤ p.mv.length → -1 ≤ (bl (okA p r) (aF p (qs.zip ws) n s r more) m).2 ∧ (bl (okA p r) (aF p (qs.zip ws) n s r more) m).2 ≤ 89964
  | 0, _ => by simp [bl]
  | m + 1, h => by
    have ih := g.bl_in hn hs hr more m (by omega)
    unfold bl
    split
    · rename_i hc
      rw [Bool.and_eq_true] at hc
      have := g.aF_in hn hs hr more (y := m) (by omega) hc.1
      simp only
      omega
    · exact ih
theorem Gd.aG_in (g : Gd p qs ws L) {n s r : Nat} (hn : n ≤ 6) (hs : s < p.mv.length) (hr : r < p.sv.length) (seen : List Int) : -1 ≤ aG p (qs.zip ws) n s seen r ∧ aG p (qs.zip ws) n s seen r ≤ 89964 := by
  unfold aG
  split
  · exact g.bl_in hn hs hr _ _ (Nat.le_refl _)
  · omega
theorem sumK_in {f : Nat → Int} {C : Int} (hC : 0 ≤ C) : ∀ k, (∀ r, r < k → -C ≤ f r ∧ f r ≤ C) → -(C * (k : Int)) ≤ sumK f k ∧ sumK f k ≤ C * (k : Int)
  | 0, _ => by simp [sumK]
  | k + 1, h => by
    have ih := sumK_in hC k (fun r hr => h r (by omega))
    have h1 := h k (by omega)
    simp only [sumK]
    push_cast
    rw [Int.mul_add, Int.mul_one]
    omega
end
theorem wS_long {k L : Nat} : ∀ {cs : Chs}, ChB k L cs → ∀ {more : List Int}, L < more.length → wS cs more = 0
  | [], _, _, _ => rfl
  | (q, w) :: cs, h, more, hl => by
    have hq := (h (q, w) (List.mem_cons_self ..)).1
    simp only at hq
    rw [wS, wS_long (fun x hx => h x (List.mem_cons_of_mem _ hx)) hl]
    have : more.isPrefixOf q = false := by
      cases e : more.isPrefixOf q
      · rfl
      · have := (List.isPrefixOf_iff_prefix.1 e).length_le; omega
    rw [this]; rfl
theorem RI.lt {A : Nat → Prop} {w : World} {b off n c : Nat} {l : List Int} (h : RI A w (.slice (some ⟨b, off, none⟩) n c) l) (hl : 0 < l.length) : b < w.heap.size := by
  obtain ⟨_, _, e, hb, _⟩ := h.cellN hl
  cases e
  exact hb
end Go.Proofs.Ytndhijckbponkaa
