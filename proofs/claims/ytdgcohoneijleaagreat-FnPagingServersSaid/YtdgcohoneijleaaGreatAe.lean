import Derived.Test.YtdgcohoneijleaaGreatAd
import Derived.Test.YtdgcohoneijleaaGreatPkX4
/- Plain Lean: a valid table as distances, the table of one distance, work lists at the same distances. No program in sight. -/
namespace Go.Proofs.YtdgcohoneijleaaGreat

/-- a table's distances -/
def dD (D : List (List Int)) (x y : Int) : Int := cellA D x.toNat y.toNat
theorem metP_d {D : List (List Int)} (h : MetP D) : MetD D.length (dD D) ∧ Small D.length (dD D) := by
  obtain ⟨_, _, h3, h4⟩ := h
  have hb : ∀ x y : Int, 0 ≤ x → x < D.length → 0 ≤ y → y < D.length → 0 ≤ dD D x y ∧ dD D x y ≤ 99 := fun x y hx hx' hy hy' => by
    obtain ⟨_, h6, h7⟩ := h3 x.toNat y.toNat (by omega) (by omega)
    show 0 ≤ cellA D x.toNat y.toNat ∧ cellA D x.toNat y.toNat ≤ 99
    by_cases e : x.toNat = y.toNat
    · rw [h6 e]; omega
    · have := h7 e; omega
  refine ⟨⟨fun x hx hx' => (h3 _ _ (by omega) (by omega)).2.1 rfl, fun x y hx hx' hy hy' => (h3 _ _ (by omega) (by omega)).1, fun x y z hx hx' hy hy' hz hz' => h4 _ _ _ (by omega) (by omega) (by omega), fun x y hx hx' hy hy' => (hb x y hx hx' hy hy').1⟩, fun x y hx hx' hy hy' => (hb x y hx hx' hy hy').2⟩
/-- the table of one distance -/
def uniT (n : Nat) (d : Int) : List (List Int) := (List.range n).map fun x => (List.range n).map fun y => if x = y then 0 else d
theorem uniT_len (n : Nat) (d : Int) : (uniT n d).length = n := by simp [uniT]
theorem uniT_row {n : Nat} (d : Int) {x : Nat} (hx : x < n) : (uniT n d).getD x [] = (List.range n).map fun y => if x = y then 0 else d := range_getD _ n [] x hx
theorem uniT_cell {n : Nat} (d : Int) {x y : Nat} (hx : x < n) (hy : y < n) : cellA (uniT n d) x y = if x = y then 0 else d := by
  unfold cellA
  rw [uniT_row d hx, range_getD _ n 0 y hy]
theorem uniT_met {n : Nat} {d : Int} (hn : 1 ≤ n ∧ n ≤ 6) (hd : 1 ≤ d ∧ d ≤ 99) : MetP (uniT n d) := by
  refine ⟨by rw [uniT_len]; exact hn, fun x hx => ?_, fun x y hx hy => ?_, fun x y z hx hy hz => ?_⟩
  · rw [uniT_len] at hx
    rw [uniT_len, uniT_row d hx]; simp
  · rw [uniT_len] at hx hy
    rw [uniT_cell d hx hy, uniT_cell d hy hx]
    refine ⟨?_, fun e => if_pos e, fun e => by rw [if_neg e]; exact hd⟩
    by_cases e : x = y
    · rw [if_pos e, if_pos e.symm]
    · rw [if_neg e, if_neg (fun e' => e e'.symm)]
  · rw [uniT_len] at hx hy hz
    rw [uniT_cell d hx hz, uniT_cell d hx hy, uniT_cell d hy hz]
    by_cases e1 : x = z
    · rw [if_pos e1]; split <;> split <;> omega
    · rw [if_neg e1]
      by_cases e2 : x = y
      · rw [if_pos e2, if_neg (fun e => e1 (e2.trans e))]; omega
      · rw [if_neg e2]; split <;> omega
/-- distances that agree on the points -/
def AgD (n : Int) (d d' : Int → Int → Int) : Prop := ∀ x y, 0 ≤ x → x < n → 0 ≤ y → y < n → d x y = d' x y
theorem uniT_ag (n : Nat) : AgD n (dD (uniT n 1)) uniD := fun x y hx hx' hy hy' => by
  show cellA (uniT n 1) x.toNat y.toNat = _
  rw [uniT_cell 1 (by omega) (by omega), uniD]
  by_cases e : x = y
  · rw [if_pos e, if_pos (by rw [e])]
  · rw [if_neg e, if_neg (by omega)]
theorem cosP_ag {n : Int} {d d' : Int → Int → Int} (h : AgD n d d') : ∀ (P : List (Int × Int)), (∀ p ∈ P, (0 ≤ p.1 ∧ p.1 < n) ∧ 0 ≤ p.2 ∧ p.2 < n) → cosP d P = cosP d' P
  | [], _ => rfl
  | p :: P, hP => by
    have hp := hP p (by simp)
    rw [cosP_cons, cosP_cons, cosP_ag h P (fun q hq => hP q (by simp [hq])), h _ _ hp.1.1 hp.1.2 hp.2.1 hp.2.2]
theorem IsMv.ag {n : Int} {d d' : Int → Int → Int} (h : AgD n d d') {a b : List Int} {c : Int} (hm : IsMv d a b c) (ha : Pts n a) (hb : Pts n b) : IsMv d' a b c := by
  obtain ⟨⟨P, hP, hc⟩, hl⟩ := hm
  exact ⟨⟨P, hP, by rw [← cosP_ag h P (hP.pts ha hb)]; exact hc⟩, fun Q hQ => by rw [← cosP_ag h Q (hQ.pts ha hb)]; exact hl Q hQ⟩
theorem mvF_ag {n : Int} {d d' : Int → Int → Int} (h : AgD n d d') (hd : MetD n d) (hs : Small n d) (hd' : MetD n d') (hs' : Small n d') {a b : List Int} (hl : a.length = b.length) (hk : 1 ≤ a.length ∧ a.length ≤ 3) (ha : Pts n a) (hb : Pts n b) : mvF d a b = mvF d' a b :=
  ((mv_is hd hs hl hk ha hb).1.ag h ha hb).uni (mv_is hd' hs' hl hk ha hb).1
theorem nxV_cong {n k : Nat} {d d' : Int → Int → Int} (w : List Int) (r : Int) (i : Nat) (h : ∀ j, j < nC n k → mvF d (cfg n k j) (cfg n k i) = mvF d' (cfg n k j) (cfg n k i)) : ∀ m, m ≤ nC n k → nxV n k d w r i m = nxV n k d' w r i m
  | 0, _ => rfl
  | m + 1, hm => by rw [nxV, nxV, nxV_cong w r i h m (by omega), h m (by omega)]
theorem wkT_ag {n k : Nat} {d d' : Int → Int → Int} (h : AgD n d d') (hk : 1 ≤ k ∧ k ≤ 3) (hd : MetD n d) (hs : Small n d) (hd' : MetD n d') (hs' : Small n d') {a : List Int} (ha : a.length = k ∧ Pts n a) (reqs : List Int) : ∀ t, wkT n k d a reqs t = wkT n k d' a reqs t
  | 0 => by
    rw [wkT, wkT]
    refine List.map_congr_left fun b hb => ?_
    have hb2 := cfs_mem.1 hb
    exact mvF_ag h hd hs hd' hs' (by rw [ha.1, hb2.1]) (by rw [ha.1]; exact hk) ha.2 hb2.2.1
  | t + 1 => by
    rw [wkT, wkT, wkT_ag h hk hd hs hd' hs' ha reqs t]
    refine List.map_congr_left fun i hi => ?_
    have hi2 : i < nC n k := by simpa using hi
    refine nxV_cong _ _ _ (fun j hj => ?_) _ (Nat.le_refl _)
    have f1 := cfg_facts hj
    have f2 := cfg_facts hi2
    exact mvF_ag h hd hs hd' hs' (by rw [f1.1, f2.1]) (by rw [f1.1]; exact hk) f1.2 f2.2
theorem leastW_ag {n k : Nat} {d d' : Int → Int → Int} (h : AgD n d d') (hk : 1 ≤ k ∧ k ≤ 3) (hd : MetD n d) (hs : Small n d) (hd' : MetD n d') (hs' : Small n d') {a : List Int} (ha : a.length = k ∧ Pts n a) (reqs : List Int) : leastW n k d a reqs = leastW n k d' a reqs := by
  rw [leastW, leastW, wkT_ag h hk hd hs hd' hs' ha]
end Go.Proofs.YtdgcohoneijleaaGreat
