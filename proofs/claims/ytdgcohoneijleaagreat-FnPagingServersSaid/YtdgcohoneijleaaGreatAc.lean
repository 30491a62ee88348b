import Derived.Test.YtdgcohoneijleaaGreatAb
/- Plain Lean: work functions, as the program and as the reference reckon them: the same lists. -/
namespace Go.Proofs.YtdgcohoneijleaaGreat

/-- sorted -/
def insL (x : Int) : List Int → List Int
  | [] => [x]
  | y :: l => if x ≤ y then x :: y :: l else y :: insL x l
def srtL : List Int → List Int
  | [] => []
  | x :: l => insL x (srtL l)
theorem insL_perm (x : Int) : ∀ l : List Int, (insL x l).Perm (x :: l)
  | [] => .refl _
  | y :: l => by
    unfold insL
    split
    · exact .refl _
    · exact ((insL_perm x l).cons y).trans (.swap x y l)
theorem srtL_perm : ∀ l : List Int, (srtL l).Perm l
  | [] => .refl _
  | x :: l => (insL_perm x _).trans ((srtL_perm l).cons x)
theorem insL_sorted (x : Int) : ∀ l : List Int, l.Pairwise (· ≤ ·) → (insL x l).Pairwise (· ≤ ·)
  | [], _ => by simp [insL]
  | y :: l, h => by
    have hp := List.pairwise_cons.1 h
    unfold insL
    split
    · rename_i hxy
      refine List.pairwise_cons.2 ⟨fun z hz => ?_, h⟩
      rcases List.mem_cons.1 hz with rfl | hz
      · exact hxy
      · have := hp.1 z hz; omega
    · refine List.pairwise_cons.2 ⟨fun z hz => ?_, insL_sorted x l hp.2⟩
      rcases List.mem_cons.1 ((insL_perm x l).mem_iff.1 hz) with rfl | hz
      · omega
      · exact hp.1 z hz
theorem srtL_sorted : ∀ l : List Int, (srtL l).Pairwise (· ≤ ·)
  | [] => .nil
  | x :: l => insL_sorted x _ (srtL_sorted l)
theorem sorted_uni : ∀ {l m : List Int}, l.Perm m → l.Pairwise (· ≤ ·) → m.Pairwise (· ≤ ·) → l = m
  | [], m, h, _, _ => (List.nil_perm.1 h).symm
  | x :: l, m, h, hl, hm => by
    cases m with
    | nil => exact absurd h.symm (by simp)
    | cons y m =>
      have h1 := List.pairwise_cons.1 hl
      have h2 := List.pairwise_cons.1 hm
      have hxy : x = y := by
        have a1 := h.mem_iff.1 (by simp : x ∈ x :: l)
        have a2 := h.mem_iff.2 (by simp : y ∈ y :: m)
        rcases List.mem_cons.1 a1 with e | a1
        · exact e
        · rcases List.mem_cons.1 a2 with e | a2
          · exact e.symm
          · have := h1.1 y a2
            have := h2.1 x a1
            omega
      subst hxy
      rw [sorted_uni h.cons_inv h1.2 h2.2]
/-- one server moved -/
def swp (x : List Int) (s : Nat) (r : Int) : List Int := srtL (x.set s r)
theorem swp_len (x : List Int) (s : Nat) (r : Int) : (swp x s r).length = x.length := by rw [swp, (srtL_perm _).length_eq, List.length_set]
theorem set_mem {x : List Int} {s : Nat} {r y : Int} (h : y ∈ x.set s r) : y ∈ x ∨ y = r := by
  rcases List.mem_or_eq_of_mem_set h with h | h
  · exact .inl h
  · exact .inr h
theorem swp_cfs {n k : Nat} {x : List Int} (h : x ∈ cfs n k) (s : Nat) {r : Int} (hr : 0 ≤ r ∧ r < n) : swp x s r ∈ cfs n k := by
  obtain ⟨h1, h2, h3⟩ := cfs_mem.1 h
  refine cfs_mem.2 ⟨by rw [swp_len, h1], fun y hy => ?_, srtL_sorted _⟩
  rcases set_mem ((srtL_perm _).mem_iff.1 hy) with h | h
  · exact h2 y h
  · subst h; exact hr
theorem swp_has {x : List Int} {s : Nat} (hs : s < x.length) (r : Int) : r ∈ swp x s r := (srtL_perm _).mem_iff.2 (List.mem_set hs r)
theorem erase_perm (x : List Int) : ∀ (s : Nat) (hs : s < x.length), x.Perm (x[s] :: x.eraseIdx s) := by
  induction x with
  | nil => intro s hs; simp at hs
  | cons y x ih =>
    intro s hs
    cases s with
    | zero => exact .refl _
    | succ s => exact ((ih s (by simpa using hs)).cons y).trans (.swap _ _ _)
theorem set_perm (x : List Int) (r : Int) : ∀ (s : Nat), s < x.length → (x.set s r).Perm (r :: x.eraseIdx s) := by
  induction x with
  | nil => intro s hs; simp at hs
  | cons y x ih =>
    intro s hs
    cases s with
    | zero => exact .refl _
    | succ s => exact ((ih s (by simpa using hs)).cons y).trans (.swap _ _ _)
/-- the point that is left, wherever it stands -/
theorem set_first (x : List Int) (r : Int) : ∀ (s : Nat) (hs : s < x.length), (x.set (x.idxOf x[s]) r).Perm (x.set s r) := by
  induction x with
  | nil => intro s hs; simp at hs
  | cons y x ih =>
    intro s hs
    cases s with
    | zero => simp
    | succ s =>
      have hs' : s < x.length := by simpa using hs
      by_cases e : y = x[s]
      · simp only [List.getElem_cons_succ, List.set_cons_succ]
        rw [List.idxOf_cons, ← e]
        simp only [BEq.rfl, cond_true, List.set_cons_zero]
        have h1 : x.Perm (y :: x.eraseIdx s) := by
          rw [e]; exact erase_perm x s hs'
        have h2 : (x.set s r).Perm (r :: x.eraseIdx s) := set_perm x r s hs'
        exact (h1.cons r).trans ((List.Perm.swap _ _ _).trans (h2.symm.cons y))
      · simp only [List.getElem_cons_succ, List.set_cons_succ]
        have e' : (y == x[s]) = false := by simpa using e
        rw [List.idxOf_cons, e']
        simp only [cond_false, List.set_cons_succ]
        exact (ih s hs').cons y
theorem swp_first (x : List Int) (r : Int) (s : Nat) (hs : s < x.length) : swp x (x.idxOf x[s]) r = swp x s r :=
  sorted_uni ((srtL_perm _).trans ((set_first x r s hs).trans (srtL_perm _).symm)) (srtL_sorted _) (srtL_sorted _)

section
variable (n k : Nat) (d : Int → Int → Int)

def cfg (i : Nat) : List Int := (cfs n k).getD i []
def nC : Nat := (cfs n k).length
/-- a list of work -/
structure WL (B : Int) (w : List Int) : Prop where
  len : w.length = nC n k
  lo : ∀ i, i < nC n k → 0 ≤ w.getD i 0 ∧ w.getD i 0 ≤ B
  lip : ∀ i j, i < nC n k → j < nC n k → w.getD i 0 ≤ w.getD j 0 + mvF d (cfg n k j) (cfg n k i)
def w0L (a : List Int) : List Int := (cfs n k).map (mvF d a)
/-- the program's next value -/
def nxV (w : List Int) (r : Int) (i : Nat) : Nat → Int
  | 0 => 1073741824
  | j + 1 => if hasI (cfg n k j) r then min (nxV w r i j) (w.getD j 0 + mvF d (cfg n k j) (cfg n k i)) else nxV w r i j
where hasI (l : List Int) (x : Int) : Bool := l.contains x
def nxL (w : List Int) (r : Int) : List Int := (List.range (nC n k)).map fun i => nxV n k d w r i (nC n k)
/-- the reference's -/
def nyV (w : List Int) (r : Int) (i : Nat) : Nat → Int
  | 0 => -1
  | s + 1 => if nyV w r i s < 0 ∨ w.getD (cix n k (swp (cfg n k i) s r)) 0 + d ((cfg n k i).getD s 0) r < nyV w r i s then w.getD (cix n k (swp (cfg n k i) s r)) 0 + d ((cfg n k i).getD s 0) r else nyV w r i s
end

theorem cfg_in {n k i : Nat} (h : i < nC n k) : cfg n k i ∈ cfs n k := cfs_at h
theorem cfg_facts {n k i : Nat} (h : i < nC n k) : (cfg n k i).length = k ∧ Pts n (cfg n k i) := ⟨(cfs_mem.1 (cfg_in h)).1, (cfs_mem.1 (cfg_in h)).2.1⟩
theorem mv_cfg {n k : Nat} {d : Int → Int → Int} (hk : 1 ≤ k ∧ k ≤ 3) (hd : MetD n d) (hs : Small n d) {a b : List Int} (ha : a.length = k ∧ Pts n a) (hb : b.length = k ∧ Pts n b) : IsMv d a b (mvF d a b) ∧ mvN d a b = mvF d a b ∧ 0 ≤ mvF d a b ∧ mvF d a b ≤ 297 :=
  mv_is hd hs (ha.1.trans hb.1.symm) (by omega) ha.2 hb.2
theorem mv_self {n k : Nat} {d : Int → Int → Int} (hk : 1 ≤ k ∧ k ≤ 3) (hd : MetD n d) (hs : Small n d) {a : List Int} (ha : a.length = k ∧ Pts n a) : mvF d a a = 0 := by
  obtain ⟨h1, _, h2, _⟩ := mv_cfg hk hd hs ha ha
  have hm : ∀ l : List Int, (∀ x ∈ l, d x x = 0) → cosP d (l.map fun y => (y, y)) = 0 := by
    intro l
    induction l with
    | nil => intro _; rfl
    | cons y l ih => intro h; rw [List.map_cons, cosP_cons, ih (fun z hz => h z (by simp [hz]))]; simpa using h y (by simp)
  have := h1.2 (a.map fun y => (y, y)) ⟨by simp [List.map_map, Function.comp_def], by simp [List.map_map, Function.comp_def]⟩
  rw [hm a (fun x hx => hd.self x (ha.2 x hx).1 (ha.2 x hx).2)] at this
  omega
theorem mv_tri {n k : Nat} {d : Int → Int → Int} (hk : 1 ≤ k ∧ k ≤ 3) (hd : MetD n d) (hs : Small n d) {a b c : List Int} (ha : a.length = k ∧ Pts n a) (hb : b.length = k ∧ Pts n b) (hc : c.length = k ∧ Pts n c) : mvF d a c ≤ mvF d a b + mvF d b c :=
  (mv_cfg hk hd hs ha hb).1.tri hd (mv_cfg hk hd hs hb hc).1 (mv_cfg hk hd hs ha hc).1 ha.2 hb.2 hc.2
theorem mv_symm {n k : Nat} {d : Int → Int → Int} (hk : 1 ≤ k ∧ k ≤ 3) (hd : MetD n d) (hs : Small n d) {a b : List Int} (ha : a.length = k ∧ Pts n a) (hb : b.length = k ∧ Pts n b) : mvF d a b = mvF d b a :=
  ((mv_cfg hk hd hs ha hb).1.symm hd ha.2 hb.2).uni (mv_cfg hk hd hs hb ha).1
theorem swp_facts {n k : Nat} {a : List Int} (ha : a.length = k ∧ Pts n a) (s : Nat) {r : Int} (hr : 0 ≤ r ∧ r < n) : (swp a s r).length = k ∧ Pts n (swp a s r) := by
  refine ⟨(swp_len _ _ _).trans ha.1, fun y hy => ?_⟩
  rcases set_mem ((srtL_perm _).mem_iff.1 hy) with h | h
  · exact ha.2 y h
  · subst h; exact hr
/-- one server's move costs its way at most -/
theorem mv_swp {n k : Nat} {d : Int → Int → Int} (hk : 1 ≤ k ∧ k ≤ 3) (hd : MetD n d) (hs : Small n d) {a : List Int} (ha : a.length = k ∧ Pts n a) {s : Nat} (hsk : s < k) {r : Int} (hr : 0 ≤ r ∧ r < n) : mvF d a (swp a s r) ≤ d (a.getD s 0) r := by
  obtain ⟨P, h1, h2⟩ := mat_set d a s r (by omega) (fun x hx => hd.self x (ha.2 x hx).1 (ha.2 x hx).2)
  rw [← h2]
  exact (mv_cfg hk hd hs ha (swp_facts ha s hr)).1.2 P (h1.perm (.refl _) (srtL_perm _).symm)
/-- a move from where the request is served: the rest of it, and one server's way -/
theorem mv_pull {n k : Nat} {d : Int → Int → Int} (hk : 1 ≤ k ∧ k ≤ 3) (hd : MetD n d) (hs : Small n d) {a b : List Int} (ha : a.length = k ∧ Pts n a) (hb : b.length = k ∧ Pts n b) {r : Int} (hr : r ∈ a) : ∃ s, s < k ∧ mvF d a (swp b s r) + d (b.getD s 0) r ≤ mvF d a b := by
  have hrn := ha.2 r hr
  obtain ⟨⟨P, h1, h2⟩, _⟩ := (mv_cfg hk hd hs ha hb).1
  obtain ⟨s, hsl, Q, q1, q2⟩ := mat_pull d h1 hr (hd.self r hrn.1 hrn.2)
  have hsk : s < k := by omega
  refine ⟨s, hsk, ?_⟩
  have h3 := (mv_cfg hk hd hs ha (swp_facts hb s hrn)).1.2 Q (q1.perm (.refl _) (srtL_perm _).symm)
  have hbs := hb.2 (b.getD s 0) (by rw [List.getD_eq_getElem?_getD, List.getElem?_eq_getElem hsl]; exact List.getElem_mem hsl)
  have := hd.symm r (b.getD s 0) hrn.1 hrn.2 hbs.1 hbs.2
  omega
theorem w0_wl {n k : Nat} {d : Int → Int → Int} (hk : 1 ≤ k ∧ k ≤ 3) (hd : MetD n d) (hs : Small n d) {a : List Int} (ha : a.length = k ∧ Pts n a) : WL n k d 297 (w0L n k d a) := by
  have hg : ∀ i, i < nC n k → (w0L n k d a).getD i 0 = mvF d a (cfg n k i) := fun i hi => by
    unfold w0L cfg
    rw [List.getD_eq_getElem?_getD, List.getD_eq_getElem?_getD, List.getElem?_map, List.getElem?_eq_getElem hi]; rfl
  refine ⟨by simp [w0L, nC], fun i hi => ?_, fun i j hi hj => ?_⟩
  · rw [hg i hi]
    have := mv_cfg hk hd hs ha (cfg_facts hi)
    exact this.2.2
  · rw [hg i hi, hg j hj]
    exact mv_tri hk hd hs ha (cfg_facts hj) (cfg_facts hi)

/-- the program's next value: the least over those that serve the request -/
theorem nxV_spec (n k : Nat) (d : Int → Int → Int) (w : List Int) (r : Int) (i : Nat) : ∀ m, (nxV n k d w r i m = 1073741824 ∨ ∃ j, j < m ∧ r ∈ cfg n k j ∧ nxV n k d w r i m = w.getD j 0 + mvF d (cfg n k j) (cfg n k i)) ∧ nxV n k d w r i m ≤ 1073741824 ∧
    ∀ j, j < m → r ∈ cfg n k j → nxV n k d w r i m ≤ w.getD j 0 + mvF d (cfg n k j) (cfg n k i)
  | 0 => ⟨.inl rfl, Int.le_refl _, fun j hj => by omega⟩
  | m + 1 => by
    obtain ⟨h1, h2, h3⟩ := nxV_spec n k d w r i m
    unfold nxV
    split
    · rename_i hc
      have hr : r ∈ cfg n k m := by simpa [nxV.hasI] using hc
      refine ⟨?_, by omega, fun j hj hrj => ?_⟩
      · rcases Int.le_total (nxV n k d w r i m) (w.getD m 0 + mvF d (cfg n k m) (cfg n k i)) with h | h
        · rw [Int.min_eq_left h]
          exact h1.imp id (fun ⟨j, a, b, c⟩ => ⟨j, by omega, b, c⟩)
        · rw [Int.min_eq_right h]
          exact .inr ⟨m, by omega, hr, rfl⟩
      · rcases Nat.lt_succ_iff_lt_or_eq.1 hj with hj | rfl
        · have := h3 j hj hrj; omega
        · omega
    · rename_i hc
      have hr : r ∉ cfg n k m := by simpa [nxV.hasI] using hc
      refine ⟨h1.imp id (fun ⟨j, a, b, c⟩ => ⟨j, by omega, b, c⟩), h2, fun j hj hrj => ?_⟩
      rcases Nat.lt_succ_iff_lt_or_eq.1 hj with hj | rfl
      · exact h3 j hj hrj
      · exact absurd hrj hr
theorem nyV_spec (n k : Nat) (d : Int → Int → Int) (w : List Int) (r : Int) (i : Nat) (h0 : ∀ s, s < k → 0 ≤ w.getD (cix n k (swp (cfg n k i) s r)) 0 + d ((cfg n k i).getD s 0) r) : ∀ m, 1 ≤ m → m ≤ k → 0 ≤ nyV n k d w r i m ∧ (∃ s, s < m ∧ nyV n k d w r i m = w.getD (cix n k (swp (cfg n k i) s r)) 0 + d ((cfg n k i).getD s 0) r) ∧
    ∀ s, s < m → nyV n k d w r i m ≤ w.getD (cix n k (swp (cfg n k i) s r)) 0 + d ((cfg n k i).getD s 0) r
  | 0, h, _ => by omega
  | m + 1, _, hm => by
    have hm0 := h0 m (by omega)
    by_cases hz : m = 0
    · subst hz
      have e : nyV n k d w r i (0 + 1) = w.getD (cix n k (swp (cfg n k i) 0 r)) 0 + d ((cfg n k i).getD 0 0) r := by
        unfold nyV
        rw [if_pos (.inl (by unfold nyV; decide))]
      refine ⟨by rw [e]; exact hm0, ⟨0, by omega, e⟩, fun s hs => ?_⟩
      have : s = 0 := by omega
      subst this; rw [e]; omega
    · obtain ⟨h1, ⟨s0, hs0, e0⟩, h3⟩ := nyV_spec n k d w r i h0 m (by omega) (by omega)
      unfold nyV
      split
      · rename_i hc
        have hc' := hc.resolve_left (by omega)
        refine ⟨hm0, ⟨m, by omega, rfl⟩, fun s hs => ?_⟩
        rcases Nat.lt_succ_iff_lt_or_eq.1 hs with hs | rfl
        · have := h3 s hs; omega
        · omega
      · rename_i hc
        refine ⟨h1, ⟨s0, by omega, e0⟩, fun s hs => ?_⟩
        rcases Nat.lt_succ_iff_lt_or_eq.1 hs with hs | rfl
        · exact h3 s hs
        · omega
theorem cix_val {n k : Nat} {x : List Int} (hx : x ∈ cfs n k) : cix n k x < nC n k ∧ cfg n k (cix n k x) = x := ⟨cix_lt hx, cix_get hx⟩
/-- THE TWO NEXT VALUES ARE ONE -/
theorem nx_one {n k : Nat} {d : Int → Int → Int} (hk : 1 ≤ k ∧ k ≤ 3) (hd : MetD n d) (hs : Small n d) {B : Int} {w : List Int} (hw : WL n k d B w) (hB : B ≤ 100000) {r : Int} (hr : 0 ≤ r ∧ r < n) {i : Nat} (hi : i < nC n k) :
    nxV n k d w r i (nC n k) = nyV n k d w r i k ∧ 0 ≤ nyV n k d w r i k ∧ nyV n k d w r i k ≤ B + 99 ∧ ∃ j, j < nC n k ∧ r ∈ cfg n k j ∧ nxV n k d w r i (nC n k) = w.getD j 0 + mvF d (cfg n k j) (cfg n k i) := by
  have ci := cfg_facts hi
  have hsw : ∀ s, s < k → cix n k (swp (cfg n k i) s r) < nC n k ∧ cfg n k (cix n k (swp (cfg n k i) s r)) = swp (cfg n k i) s r ∧ 0 ≤ d ((cfg n k i).getD s 0) r ∧ d ((cfg n k i).getD s 0) r ≤ 99 := fun s hsk => by
    have h1 := cix_val (swp_cfs (cfg_in hi) s hr)
    have hp := ci.2 ((cfg n k i).getD s 0) (by rw [List.getD_eq_getElem?_getD, List.getElem?_eq_getElem (by omega)]; exact List.getElem_mem _)
    exact ⟨h1.1, h1.2, hd.pos _ _ hp.1 hp.2 hr.1 hr.2, hs _ _ hp.1 hp.2 hr.1 hr.2⟩
  have h0 : ∀ s, s < k → 0 ≤ w.getD (cix n k (swp (cfg n k i) s r)) 0 + d ((cfg n k i).getD s 0) r := fun s hsk => by
    have h1 := hsw s hsk
    have h2 := hw.lo _ h1.1
    omega
  obtain ⟨y1, ⟨s0, hs0, y2⟩, y3⟩ := nyV_spec n k d w r i h0 k hk.1 (Nat.le_refl _)
  obtain ⟨x1, x2, x3⟩ := nxV_spec n k d w r i (nC n k)
  -- the program's is at most the reference's
  have hle : nxV n k d w r i (nC n k) ≤ nyV n k d w r i k := by
    have h1 := hsw s0 hs0
    have hrj : r ∈ cfg n k (cix n k (swp (cfg n k i) s0 r)) := by rw [h1.2.1]; exact swp_has (by omega) r
    have h2 := x3 _ h1.1 hrj
    rw [h1.2.1] at h2
    have h3 := mv_swp hk hd hs ci hs0 hr
    have h4 := mv_symm hk hd hs ci (swp_facts ci s0 hr)
    omega
  have hub : nyV n k d w r i k ≤ B + 99 := by
    have h1 := hsw s0 hs0
    have h2 := hw.lo _ h1.1
    have h3 := y3 s0 hs0
    omega
  rcases x1 with x1 | ⟨j, hj, hrj, x1⟩
  · omega
  · have cj := cfg_facts hj
    obtain ⟨s, hsk, h1⟩ := mv_pull hk hd hs cj ci hrj
    have h2 := hsw s hsk
    have h3 := hw.lip (cix n k (swp (cfg n k i) s r)) j h2.1 hj
    rw [h2.2.1] at h3
    have h4 := y3 s hsk
    exact ⟨by omega, y1, hub, j, hj, hrj, x1⟩
theorem range_getD {α : Type} (f : Nat → α) (N : Nat) (z : α) (i : Nat) (h : i < N) : ((List.range N).map f).getD i z = f i := by
  rw [List.getD_eq_getElem?_getD, List.getElem?_map, List.getElem?_range h]; rfl
theorem nx_wl {n k : Nat} {d : Int → Int → Int} (hk : 1 ≤ k ∧ k ≤ 3) (hd : MetD n d) (hs : Small n d) {B : Int} {w : List Int} (hw : WL n k d B w) (hB : B ≤ 100000) {r : Int} (hr : 0 ≤ r ∧ r < n) : WL n k d (B + 99) (nxL n k d w r) := by
  refine ⟨by simp [nxL], fun i hi => ?_, fun i j hi hj => ?_⟩
  · unfold nxL
    rw [range_getD _ _ _ _ hi]
    have := nx_one hk hd hs hw hB hr hi
    omega
  · unfold nxL
    rw [range_getD _ _ _ _ hi, range_getD _ _ _ _ hj]
    obtain ⟨_, _, _, c, hc, hrc, e⟩ := nx_one hk hd hs hw hB hr hj
    have h1 := (nxV_spec n k d w r i (nC n k)).2.2 c hc hrc
    have h2 := mv_tri hk hd hs (cfg_facts hc) (cfg_facts hj) (cfg_facts hi)
    omega
/-- the lists one behind another -/
def wkT (n k : Nat) (d : Int → Int → Int) (a : List Int) (reqs : List Int) : Nat → List Int
  | 0 => w0L n k d a
  | t + 1 => nxL n k d (wkT n k d a reqs t) (reqs.getD t 0)
theorem wkT_wl {n k : Nat} {d : Int → Int → Int} (hk : 1 ≤ k ∧ k ≤ 3) (hd : MetD n d) (hs : Small n d) {a : List Int} (ha : a.length = k ∧ Pts n a) {reqs : List Int} (hr : Pts n reqs) (hl : reqs.length ≤ 100) : ∀ t, t ≤ reqs.length → WL n k d (297 + 99 * t) (wkT n k d a reqs t)
  | 0, _ => by have := w0_wl hk hd hs ha; rw [wkT]; simpa using this
  | t + 1, ht => by
    have h := wkT_wl hk hd hs ha hr hl t (by omega)
    have hrt := hr (reqs.getD t 0) (by rw [List.getD_eq_getElem?_getD, List.getElem?_eq_getElem (by omega)]; exact List.getElem_mem _)
    have := nx_wl hk hd hs h (by omega) hrt
    rw [wkT]
    refine ⟨this.len, fun i hi => ?_, this.lip⟩
    have := this.lo i hi
    omega
/-- the least number of a list that is not empty -/
def minL : List Int → Int
  | [] => 0
  | x :: l => lowF l x
theorem minL_spec {l : List Int} (h : l ≠ []) : minL l ∈ l ∧ ∀ x ∈ l, minL l ≤ x := by
  cases l with
  | nil => exact absurd rfl h
  | cons x l =>
    obtain ⟨h1, h2, h3⟩ := lowF_spec l x
    refine ⟨?_, fun y hy => ?_⟩
    · rcases h1 with h1 | h1
      · show lowF l x ∈ _
        rw [h1]; simp
      · exact List.mem_cons_of_mem _ h1
    · rcases List.mem_cons.1 hy with rfl | hy
      · exact h2
      · exact h3 y hy
def leastW (n k : Nat) (d : Int → Int → Int) (a reqs : List Int) : Int := minL (wkT n k d a reqs reqs.length)

/-- THE WORK FUNCTION ALGORITHM: the best configuration of the first s servers' moves: itself, its way, its sum -/
def svT (n k : Nat) (d : Int → Int → Int) (w a : List Int) (r : Int) : Nat → List Int × Int × Int
  | 0 => ([], 0, 1073741824)
  | s + 1 =>
    if w.getD (cix n k (swp a s r)) 0 + d (a.getD s 0) r < (svT n k d w a r s).2.2 ∨ (w.getD (cix n k (swp a s r)) 0 + d (a.getD s 0) r = (svT n k d w a r s).2.2 ∧ cmpL (swp a s r) (svT n k d w a r s).1 < 0)
    then (swp a s r, d (a.getD s 0) r, w.getD (cix n k (swp a s r)) 0 + d (a.getD s 0) r) else svT n k d w a r s
def svL (n k : Nat) (d : Int → Int → Int) (w a : List Int) (r : Int) : List Int × Int := if a.contains r then (a, 0) else ((svT n k d w a r k).1, (svT n k d w a r k).2.1)
theorem svT_spec {n k : Nat} {d : Int → Int → Int} (hk : 1 ≤ k ∧ k ≤ 3) (hd : MetD n d) (hs : Small n d) {B : Int} {w : List Int} (hw : WL n k d B w) (hB : B ≤ 100000) {a : List Int} (ha : a ∈ cfs n k) {r : Int} (hr : 0 ≤ r ∧ r < n) : ∀ s, 1 ≤ s → s ≤ k →
    ∃ q, q < s ∧ svT n k d w a r s = (swp a q r, d (a.getD q 0) r, w.getD (cix n k (swp a q r)) 0 + d (a.getD q 0) r) ∧ 0 ≤ w.getD (cix n k (swp a q r)) 0 + d (a.getD q 0) r ∧ w.getD (cix n k (swp a q r)) 0 + d (a.getD q 0) r ≤ B + 99
  | 0, h, _ => by omega
  | s + 1, _, hsk => by
    have hb : ∀ q, q < k → 0 ≤ w.getD (cix n k (swp a q r)) 0 + d (a.getD q 0) r ∧ w.getD (cix n k (swp a q r)) 0 + d (a.getD q 0) r ≤ B + 99 := fun q hq => by
      have h1 := cix_val (swp_cfs ha q hr)
      have h2 := hw.lo _ h1.1
      have hl := (cfs_mem.1 ha).1
      have hp := (cfs_mem.1 ha).2.1 (a.getD q 0) (by rw [List.getD_eq_getElem?_getD, List.getElem?_eq_getElem (by omega)]; exact List.getElem_mem _)
      have h3 := hd.pos _ _ hp.1 hp.2 hr.1 hr.2
      have h4 := hs _ _ hp.1 hp.2 hr.1 hr.2
      omega
    have hbs := hb s (by omega)
    by_cases h0 : s = 0
    · subst h0
      refine ⟨0, by omega, ?_, hbs⟩
      rw [svT, if_pos (.inl (by simp only [svT]; omega))]
    · obtain ⟨q, hq, e, h1, h2⟩ := svT_spec hk hd hs hw hB ha hr s (by omega) (by omega)
      rw [svT]
      split
      · exact ⟨s, by omega, rfl, hbs⟩
      · exact ⟨q, by omega, e, h1, h2⟩
theorem svL_facts {n k : Nat} {d : Int → Int → Int} (hk : 1 ≤ k ∧ k ≤ 3) (hd : MetD n d) (hs : Small n d) {B : Int} {w : List Int} (hw : WL n k d B w) (hB : B ≤ 100000) {a : List Int} (ha : a ∈ cfs n k) {r : Int} (hr : 0 ≤ r ∧ r < n) :
    (svL n k d w a r).1 ∈ cfs n k ∧ r ∈ (svL n k d w a r).1 ∧ mvF d a (svL n k d w a r).1 ≤ (svL n k d w a r).2 ∧ 0 ≤ (svL n k d w a r).2 ∧ (svL n k d w a r).2 ≤ 99 := by
  have fa : a.length = k ∧ Pts n a := ⟨(cfs_mem.1 ha).1, (cfs_mem.1 ha).2.1⟩
  unfold svL
  split
  · rename_i hc
    have hra : r ∈ a := by simpa using hc
    have := mv_self hk hd hs fa
    exact ⟨ha, hra, by simp only []; omega, by simp, by simp⟩
  · obtain ⟨q, hq, e, h1, h2⟩ := svT_spec hk hd hs hw hB ha hr k hk.1 (Nat.le_refl _)
    rw [e]
    have hp := fa.2 (a.getD q 0) (by rw [List.getD_eq_getElem?_getD, List.getElem?_eq_getElem (by omega)]; exact List.getElem_mem _)
    exact ⟨swp_cfs ha q hr, swp_has (by omega) r, mv_swp hk hd hs fa hq hr, hd.pos _ _ hp.1 hp.2 hr.1 hr.2, hs _ _ hp.1 hp.2 hr.1 hr.2⟩
/-- where the servers are behind the first t requests, and what they have gone -/
def rnT (n k : Nat) (d : Int → Int → Int) (a reqs : List Int) : Nat → List Int × Int
  | 0 => (a, 0)
  | t + 1 => ((svL n k d (wkT n k d a reqs (t + 1)) (rnT n k d a reqs t).1 (reqs.getD t 0)).1, (rnT n k d a reqs t).2 + (svL n k d (wkT n k d a reqs (t + 1)) (rnT n k d a reqs t).1 (reqs.getD t 0)).2)
theorem rnT_facts {n k : Nat} {d : Int → Int → Int} (hk : 1 ≤ k ∧ k ≤ 3) (hd : MetD n d) (hs : Small n d) {a : List Int} (ha : a ∈ cfs n k) {reqs : List Int} (hr : Pts n reqs) (hl : reqs.length ≤ 100) : ∀ t, t ≤ reqs.length → (rnT n k d a reqs t).1 ∈ cfs n k ∧ 0 ≤ (rnT n k d a reqs t).2 ∧ (rnT n k d a reqs t).2 ≤ 99 * t
  | 0, _ => ⟨ha, by simp [rnT], by simp [rnT]⟩
  | t + 1, ht => by
    obtain ⟨h1, h2, h3⟩ := rnT_facts hk hd hs ha hr hl t (by omega)
    have fa : a.length = k ∧ Pts n a := ⟨(cfs_mem.1 ha).1, (cfs_mem.1 ha).2.1⟩
    have hw := wkT_wl hk hd hs fa hr hl (t + 1) ht
    have hrt := hr (reqs.getD t 0) (by rw [List.getD_eq_getElem?_getD, List.getElem?_eq_getElem (by omega)]; exact List.getElem_mem _)
    have h := svL_facts hk hd hs hw (by omega) h1 hrt
    rw [rnT]
    exact ⟨h.1, by simp only []; omega, by simp only []; omega⟩
end Go.Proofs.YtdgcohoneijleaaGreat
