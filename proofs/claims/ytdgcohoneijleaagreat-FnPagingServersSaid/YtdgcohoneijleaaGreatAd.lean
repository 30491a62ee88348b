import Derived.Test.YtdgcohoneijleaaGreatAc
import Derived.Test.YtdgcohoneijleaaGreatBa
/- Plain Lean: with one distance, servers are a full cache: the least cost is the least number of faults. -/
namespace Go.Proofs.YtdgcohoneijleaaGreat

/-- the requests can be served from a place that serves the first one, with a cost behind it -/
def Ser (n k : Nat) (d : Int → Int → Int) : List Int → List Int → Int → Prop
  | [], _, c => c = 0
  | r :: l, C, c => r ∈ C ∧ ∃ Y c1, Y ∈ cfs n k ∧ Ser n k d l Y c1 ∧ c = mvF d C Y + c1
theorem min_list {n k : Nat} {d : Int → Int → Int} (hk : 1 ≤ k ∧ k ≤ 3) (hd : MetD n d) (hs : Small n d) (hn : 1 ≤ n ∧ n ≤ 6) : ∀ (l w : List Int) (B : Int), Pts n l → B + 99 * l.length ≤ 100000 → WL n k d B w →
    (∀ i c, i < nC n k → Ser n k d l (cfg n k i) c → minL (l.foldl (nxL n k d) w) ≤ w.getD i 0 + c) ∧ ∃ i c, i < nC n k ∧ Ser n k d l (cfg n k i) c ∧ minL (l.foldl (nxL n k d) w) = w.getD i 0 + c
  | [], w, B, _, _, hw => by
    have hpos : 0 < w.length := by rw [hw.len]; exact cfs_pos n hn.2 hn.1 k hk.2
    have hne : w ≠ [] := fun e => by rw [e] at hpos; simp at hpos
    obtain ⟨h1, h2⟩ := minL_spec hne
    refine ⟨fun i c hi hc => ?_, ?_⟩
    · have hi' : i < w.length := by rw [hw.len]; exact hi
      have : c = 0 := hc
      have h3 := h2 (w.getD i 0) (by rw [List.getD_eq_getElem?_getD, List.getElem?_eq_getElem hi']; exact List.getElem_mem hi')
      rw [List.foldl_nil]
      omega
    · obtain ⟨i, hi, he⟩ := List.getElem_of_mem h1
      refine ⟨i, 0, by rw [← hw.len]; exact hi, rfl, ?_⟩
      rw [List.foldl_nil, List.getD_eq_getElem?_getD, List.getElem?_eq_getElem hi]
      simp [he]
  | r :: l, w, B, hp, hB, hw => by
    rw [List.length_cons] at hB
    have hr := hp r (by simp)
    have hw' := nx_wl hk hd hs hw (by omega) hr
    obtain ⟨h1, j, c1, hj, hc1, he⟩ := min_list hk hd hs hn l (nxL n k d w r) (B + 99) (fun x hx => hp x (by simp [hx])) (by omega) hw'
    have hg : ∀ j, j < nC n k → (nxL n k d w r).getD j 0 = nxV n k d w r j (nC n k) := fun j hj => range_getD _ _ _ _ hj
    refine ⟨fun i c hi hc => ?_, ?_⟩
    · obtain ⟨hri, Y, c2, hY, hS, rfl⟩ := hc
      have hy := cix_val hY
      have h2 := h1 (cix n k Y) c2 hy.1 (by rw [hy.2]; exact hS)
      rw [hg _ hy.1] at h2
      have h3 := (nxV_spec n k d w r (cix n k Y) (nC n k)).2.2 i hi hri
      rw [hy.2] at h3
      rw [List.foldl_cons]
      omega
    · obtain ⟨_, _, _, i, hi, hri, e⟩ := nx_one hk hd hs hw (by omega) hr hj
      refine ⟨i, mvF d (cfg n k i) (cfg n k j) + c1, hi, ⟨hri, cfg n k j, c1, cfg_in hj, hc1, rfl⟩, ?_⟩
      rw [List.foldl_cons, he, hg j hj, e]
      omega
theorem wk_fold (n k : Nat) (d : Int → Int → Int) (a reqs : List Int) : ∀ t, t ≤ reqs.length → wkT n k d a reqs t = (reqs.take t).foldl (nxL n k d) (w0L n k d a)
  | 0, _ => rfl
  | t + 1, h => by
    have ht : t < reqs.length := by omega
    rw [wkT, wk_fold n k d a reqs t (by omega), List.take_succ_eq_append_getElem ht, List.foldl_append]
    simp [List.getD_eq_getElem?_getD, ht]
theorem w0_get {n k : Nat} {d : Int → Int → Int} {a : List Int} {i : Nat} (hi : i < nC n k) : (w0L n k d a).getD i 0 = mvF d a (cfg n k i) := by
  unfold w0L cfg
  rw [List.getD_eq_getElem?_getD, List.getD_eq_getElem?_getD, List.getElem?_map, List.getElem?_eq_getElem hi]; rfl
theorem least_min {n k : Nat} {d : Int → Int → Int} (hk : 1 ≤ k ∧ k ≤ 3) (hd : MetD n d) (hs : Small n d) (hn : 1 ≤ n ∧ n ≤ 6) {a : List Int} (ha : a ∈ cfs n k) {reqs : List Int} (hr : Pts n reqs) (hl : reqs.length ≤ 100) :
    (∀ Y c, Y ∈ cfs n k → Ser n k d reqs Y c → leastW n k d a reqs ≤ mvF d a Y + c) ∧ ∃ Y c, Y ∈ cfs n k ∧ Ser n k d reqs Y c ∧ leastW n k d a reqs = mvF d a Y + c := by
  have fa : a.length = k ∧ Pts n a := ⟨(cfs_mem.1 ha).1, (cfs_mem.1 ha).2.1⟩
  obtain ⟨h1, i, c, hi, hc, he⟩ := min_list hk hd hs hn reqs (w0L n k d a) 297 hr (by omega) (w0_wl hk hd hs fa)
  have e : leastW n k d a reqs = minL (reqs.foldl (nxL n k d) (w0L n k d a)) := by
    unfold leastW
    rw [wk_fold n k d a reqs _ (Nat.le_refl _), List.take_length]
  rw [e]
  refine ⟨fun Y c hY hS => ?_, cfg n k i, c, cfg_in hi, hc, by rw [he, w0_get hi]⟩
  have hy := cix_val hY
  have := h1 (cix n k Y) c hy.1 (by rw [hy.2]; exact hS)
  rw [w0_get hy.1, hy.2] at this
  exact this
/-- no run of an algorithm costs less -/
theorem run_ser {n k : Nat} {d : Int → Int → Int} (hk : 1 ≤ k ∧ k ≤ 3) (hd : MetD n d) (hs : Small n d) {a : List Int} (ha : a ∈ cfs n k) {reqs : List Int} (hr : Pts n reqs) (hl : reqs.length ≤ 100) : ∀ m t, t + m = reqs.length → 0 < m →
    ∃ c, Ser n k d (reqs.drop t) (rnT n k d a reqs (t + 1)).1 c ∧ mvF d (rnT n k d a reqs t).1 (rnT n k d a reqs (t + 1)).1 + c ≤ (rnT n k d a reqs reqs.length).2 - (rnT n k d a reqs t).2
  | 0, _, _, h => by omega
  | m + 1, t, ht, _ => by
    have fa : a.length = k ∧ Pts n a := ⟨(cfs_mem.1 ha).1, (cfs_mem.1 ha).2.1⟩
    have hrt := hr (reqs.getD t 0) (by rw [List.getD_eq_getElem?_getD, List.getElem?_eq_getElem (by omega)]; exact List.getElem_mem _)
    have h1 := rnT_facts hk hd hs ha hr hl t (by omega)
    have h2 := rnT_facts hk hd hs ha hr hl (t + 1) (by omega)
    have hf := svL_facts hk hd hs (wkT_wl hk hd hs fa hr hl (t + 1) (by omega)) (by omega) h1.1 hrt
    have hd' : reqs.drop t = reqs.getD t 0 :: reqs.drop (t + 1) := by
      rw [List.drop_eq_getElem_cons (by omega : t < reqs.length)]
      simp [List.getD_eq_getElem?_getD, (by omega : t < reqs.length)]
    have e2 : (rnT n k d a reqs (t + 1)).1 = (svL n k d (wkT n k d a reqs (t + 1)) (rnT n k d a reqs t).1 (reqs.getD t 0)).1 := rfl
    have e3 : (rnT n k d a reqs (t + 1)).2 = (rnT n k d a reqs t).2 + (svL n k d (wkT n k d a reqs (t + 1)) (rnT n k d a reqs t).1 (reqs.getD t 0)).2 := rfl
    rw [hd']
    by_cases hm : m = 0
    · subst hm
      have hT : reqs.length = t + 1 := by omega
      have hself := mv_self hk hd hs (a := (rnT n k d a reqs (t + 1)).1) ⟨(cfs_mem.1 h2.1).1, (cfs_mem.1 h2.1).2.1⟩
      refine ⟨0, ⟨by rw [e2]; exact hf.2.1, (rnT n k d a reqs (t + 1)).1, 0, h2.1, ?_, by omega⟩, ?_⟩
      · rw [List.drop_of_length_le (by omega)]; exact rfl
      · rw [hT, e3, e2]; omega
    · obtain ⟨c, hc, hle⟩ := run_ser hk hd hs ha hr hl m (t + 1) (by omega) (by omega)
      have h3 := rnT_facts hk hd hs ha hr hl (t + 1 + 1) (by omega)
      refine ⟨mvF d (rnT n k d a reqs (t + 1)).1 (rnT n k d a reqs (t + 1 + 1)).1 + c, ⟨by rw [e2]; exact hf.2.1, (rnT n k d a reqs (t + 1 + 1)).1, c, h3.1, hc, rfl⟩, ?_⟩
      rw [e3] at hle
      have := hf.2.2.1
      rw [← e2] at this
      omega
theorem run_least {n k : Nat} {d : Int → Int → Int} (hk : 1 ≤ k ∧ k ≤ 3) (hd : MetD n d) (hs : Small n d) (hn : 1 ≤ n ∧ n ≤ 6) {a : List Int} (ha : a ∈ cfs n k) {reqs : List Int} (hr : Pts n reqs) (hl : reqs.length ≤ 100) : leastW n k d a reqs ≤ (rnT n k d a reqs reqs.length).2 := by
  have fa : a.length = k ∧ Pts n a := ⟨(cfs_mem.1 ha).1, (cfs_mem.1 ha).2.1⟩
  obtain ⟨h1, _⟩ := least_min hk hd hs hn ha hr hl
  by_cases h0 : reqs.length = 0
  · have e : reqs = [] := List.eq_nil_of_length_eq_zero h0
    subst e
    have := h1 a 0 ha rfl
    rw [mv_self hk hd hs fa] at this
    simpa [rnT] using this
  · obtain ⟨c, hc, hle⟩ := run_ser hk hd hs ha hr hl reqs.length 0 (by omega) (by omega)
    have h2 := rnT_facts hk hd hs ha hr hl 1 (by omega)
    have := h1 _ c h2.1 (by simpa using hc)
    have e0 : (rnT n k d a reqs 0) = (a, 0) := rfl
    rw [e0] at hle
    simp only [Nat.zero_add] at hle
    omega

/-- one distance for all points -/
def uniD (x y : Int) : Int := if x = y then 0 else 1
theorem uni_met (n : Int) : MetD n uniD ∧ Small n uniD := by
  refine ⟨⟨fun x _ _ => by simp [uniD], fun x y _ _ _ _ => ?_, fun x y z _ _ _ _ _ _ => ?_, fun x y _ _ _ _ => ?_⟩, fun x y _ _ _ _ => ?_⟩
  · unfold uniD; by_cases h : x = y
    · rw [if_pos h, if_pos h.symm]
    · rw [if_neg h, if_neg (fun e => h e.symm)]
  · unfold uniD
    by_cases h1 : x = z
    · rw [if_pos h1]; split <;> split <;> omega
    · rw [if_neg h1]
      by_cases h2 : x = y
      · rw [if_pos h2, if_neg (fun e => h1 (h2.trans e))]; omega
      · rw [if_neg h2]; split <;> omega
  · unfold uniD; split <;> omega
  · unfold uniD; split <;> omega
/-- a cache that is moved: no more faults behind it than the way -/
theorem sim_mat {k : Nat} {l : List Int} : ∀ (P : List (Int × Int)) (S T : Int → Prop) (c : Nat), (∀ x, S x → T x ∨ x ∈ P.map Prod.snd) → (∀ p ∈ P, T p.1) → Sim k l S c → ∃ c', Sim k l T c' ∧ (c' : Int) ≤ c + cosP uniD P
  | [], S, T, c, h, _, hs => by
    obtain ⟨c', h1, h2⟩ := sim_mono (S' := T) (fun x hx => (h x hx).resolve_right (by simp)) hs
    exact ⟨c', h2, by simp [cosP]; omega⟩
  | p :: P, S, T, c, h, hT, hs => by
    rw [cosP_cons]
    by_cases e : p.1 = p.2
    · obtain ⟨c', h1, h2⟩ := sim_mat P S T c (fun x hx => by
        rcases h x hx with h | h
        · exact .inl h
        · rcases List.mem_cons.1 (by simpa using h : x ∈ p.2 :: P.map Prod.snd) with h | h
          · exact .inl (by rw [h, ← e]; exact hT p (by simp))
          · exact .inr h) (fun q hq => hT q (by simp [hq])) hs
      refine ⟨c', h1, ?_⟩
      have : uniD p.1 p.2 = 0 := by unfold uniD; rw [if_pos e]
      omega
    · obtain ⟨c1, h1, h2⟩ := sim_lose p.2 (S := S) (T := fun x => T x ∨ x ∈ P.map Prod.snd) (fun x hx => by
        rcases h x hx with h | h
        · exact .inl (.inl h)
        · rcases List.mem_cons.1 (by simpa using h : x ∈ p.2 :: P.map Prod.snd) with h | h
          · exact .inr h
          · exact .inl (.inr h)) hs
      obtain ⟨c', h3, h4⟩ := sim_mat P _ T c1 (fun x hx => hx) (fun q hq => hT q (by simp [hq])) h2
      refine ⟨c', h3, ?_⟩
      have : uniD p.1 p.2 = 1 := by unfold uniD; rw [if_neg e]
      omega
theorem sim_move {n k : Nat} (hk : 1 ≤ k ∧ k ≤ 3) {l X Y : List Int} (hX : X ∈ cfs n k) (hY : Y ∈ cfs n k) {c : Nat} (h : Sim k l (· ∈ Y) c) : ∃ c', Sim k l (· ∈ X) c' ∧ (c' : Int) ≤ c + mvF uniD X Y := by
  obtain ⟨hd, hs⟩ := uni_met n
  obtain ⟨⟨P, h1, h2⟩, _⟩ := (mv_cfg (n := n) (k := k) hk hd hs ⟨(cfs_mem.1 hX).1, (cfs_mem.1 hX).2.1⟩ ⟨(cfs_mem.1 hY).1, (cfs_mem.1 hY).2.1⟩).1
  rw [← h2]
  exact sim_mat P (· ∈ Y) (· ∈ X) c (fun x hx => .inr (h1.2.mem_iff.2 hx)) (fun p hp => h1.1.mem_iff.1 (List.mem_map_of_mem hp)) h
theorem ser_sim {n k : Nat} (hk : 1 ≤ k ∧ k ≤ 3) : ∀ (l X : List Int) (c : Int), X ∈ cfs n k → Ser n k uniD l X c → ∃ c', Sim k l (· ∈ X) c' ∧ (c' : Int) ≤ c
  | [], X, c, _, h => ⟨0, rfl, by have : c = 0 := h; omega⟩
  | r :: l, X, c, hX, ⟨hr, Y, c1, hY, hS, e⟩ => by
    obtain ⟨c2, h2, h3⟩ := ser_sim hk l Y c1 hY hS
    obtain ⟨c3, h4, h5⟩ := sim_move hk hX hY h2
    exact ⟨c3, ⟨(· ∈ X), hr, fun x hx => .inl hx, ⟨X, by rw [(cfs_mem.1 hX).1]; exact Nat.le_refl _, fun x hx => hx⟩, c3, h4, .inl ⟨hr, rfl⟩⟩, by omega⟩
/-- a server that may go -/
theorem free_one {k : Nat} {X : List Int} (hX : X.length = k) {r : Int} (hr : r ∉ X) {S1 : Int → Prop} (h1 : S1 r) (h2 : ∀ x, S1 x → x ∈ X ∨ x = r) (h3 : Fits k S1) (_hk : 1 ≤ k) : ∃ s, s < k ∧ ∀ x, S1 x → x ∈ X.set s r := by
  refine Classical.byContradiction fun hno => ?_
  have hall : ∀ s, s < k → ∃ x, S1 x ∧ x ∉ X.set s r := fun s hs => Classical.byContradiction fun e => hno ⟨s, hs, fun x hx => Classical.byContradiction fun e' => e ⟨x, hx, e'⟩⟩
  have hone : ∀ (s : Nat) (hs : s < X.length), S1 X[s] ∧ X[s] ∉ X.set s r := fun s hs => by
    obtain ⟨x, hx, hn⟩ := hall s (by omega)
    have hxr : x ≠ r := fun e => hn (by rw [e]; exact List.mem_set hs r)
    have hxX := (h2 x hx).resolve_right hxr
    obtain ⟨t, ht, e⟩ := List.getElem_of_mem hxX
    by_cases hst : s = t
    · subst hst; rw [e]; exact ⟨hx, hn⟩
    · exact absurd (by rw [← e, ← List.getElem_set_ne hst (by simpa using ht) (a := r)]; exact List.getElem_mem _) hn
  have hnd : X.Nodup := by
    rw [List.nodup_iff_pairwise_ne, List.pairwise_iff_getElem]
    intro i j hi hj hij e
    have := (hone i hi).2
    apply this
    rw [e, ← List.getElem_set_ne (by omega : i ≠ j) (by simpa using hj) (a := r)]
    exact List.getElem_mem _
  obtain ⟨L, hL1, hL2⟩ := h3
  have := nodup_le (l := r :: X) (m := L) (List.nodup_cons.2 ⟨hr, hnd⟩) (fun x hx => by
    rcases List.mem_cons.1 hx with rfl | hx
    · exact hL2 _ h1
    · obtain ⟨t, ht, e⟩ := List.getElem_of_mem hx
      rw [← e]; exact hL2 _ (hone t ht).1)
  rw [List.length_cons, hX] at this
  omega
theorem sim_ser {n k : Nat} (hk : 1 ≤ k ∧ k ≤ 3) : ∀ (l X : List Int) (S : Int → Prop) (f : Nat), X ∈ cfs n k → Pts n l → (∀ x, S x → x ∈ X) → Sim k l S f → ∃ Y c, Y ∈ cfs n k ∧ Ser n k uniD l Y c ∧ mvF uniD X Y + c ≤ f
  | [], X, S, f, hX, _, _, h => by
    obtain ⟨hd, hs⟩ := uni_met n
    have := mv_self (n := n) (k := k) hk hd hs (a := X) ⟨(cfs_mem.1 hX).1, (cfs_mem.1 hX).2.1⟩
    exact ⟨X, 0, hX, rfl, by omega⟩
  | r :: l, X, S, f, hX, hp, hSX, ⟨S1, h1, h2, h3, c1, h4, h5⟩ => by
    obtain ⟨hd, hs⟩ := uni_met n
    have fX : X.length = k ∧ Pts n X := ⟨(cfs_mem.1 hX).1, (cfs_mem.1 hX).2.1⟩
    have hrn := hp r (by simp)
    have hpl : Pts n l := fun x hx => hp x (by simp [hx])
    by_cases hr : r ∈ X
    · obtain ⟨Y, c, hY, hS, hle⟩ := sim_ser hk l X S1 c1 hX hpl (fun x hx => (h2 x hx).elim (hSX x) (fun e => e ▸ hr)) h4
      have := mv_self (n := n) (k := k) hk hd hs fX
      refine ⟨X, mvF uniD X Y + c, hX, ⟨hr, Y, c, hY, hS, rfl⟩, ?_⟩
      rcases h5 with ⟨_, e⟩ | ⟨_, e⟩ <;> omega
    · have hSr : ¬ S r := fun e => hr (hSX r e)
      have e : f = c1 + 1 := h5.elim (fun h => absurd h.1 hSr) (fun h => h.2)
      obtain ⟨s, hsk, hin⟩ := free_one fX.1 hr h1 (fun x hx => (h2 x hx).imp (hSX x) id) h3 hk.1
      have hX' := swp_cfs hX s hrn
      obtain ⟨Y, c, hY, hS, hle⟩ := sim_ser hk l (swp X s r) S1 c1 hX' hpl (fun x hx => (srtL_perm _).mem_iff.2 (hin x hx)) h4
      have hmv := mv_swp (n := n) (k := k) hk hd hs fX hsk hrn
      have hu : uniD (X.getD s 0) r ≤ 1 := by unfold uniD; split <;> omega
      exact ⟨swp X s r, mvF uniD (swp X s r) Y + c, hX', ⟨swp_has (by omega) r, Y, c, hY, hS, rfl⟩, by omega⟩
/-- a cache that is filled first -/
theorem fill_sim {k : Nat} {l : List Int} {g : Nat} : ∀ (B acc : List Int), (acc ++ B).Nodup → acc.length + B.length ≤ k → Sim k l (· ∈ acc ++ B) g → Sim k (B ++ l) (· ∈ acc) (B.length + g)
  | [], acc, _, _, h => by simpa using h
  | x :: B, acc, hn, hk, h => by
    have e : acc ++ x :: B = (acc ++ [x]) ++ B := by simp
    rw [e] at hn h
    have ih := fill_sim B (acc ++ [x]) hn (by simp at hk ⊢; omega) h
    have hx : x ∉ acc := fun hm => by
      have := (List.nodup_append.1 (List.nodup_append.1 hn).1).2.2 x hm x (by simp)
      exact this rfl
    exact ⟨(· ∈ acc ++ [x]), by simp, fun y hy => by simpa using hy, ⟨acc ++ [x], by simp at hk ⊢; omega, fun y hy => hy⟩, B.length + g, ih, .inr ⟨hx, by simp; omega⟩⟩
theorem sim_fill {k : Nat} {l : List Int} : ∀ (B : List Int) (S : Int → Prop) (F : Nat), B.Nodup → (∀ x ∈ B, ¬ S x) → Sim k (B ++ l) S F → ∃ g, Sim k l (fun x => S x ∨ x ∈ B) g ∧ B.length + g ≤ F
  | [], S, F, _, _, h => by
    obtain ⟨c', h1, h2⟩ := sim_mono (S' := fun x => S x ∨ x ∈ ([] : List Int)) (fun x hx => .inl hx) h
    exact ⟨c', h2, by simpa using h1⟩
  | x :: B, S, F, hn, hS, ⟨S1, h1, h2, h3, c1, h4, h5⟩ => by
    have hn' := List.nodup_cons.1 hn
    have hx := hS x (by simp)
    obtain ⟨g, hg, hle⟩ := sim_fill B S1 c1 hn'.2 (fun y hy e => by
      rcases h2 y e with e | e
      · exact hS y (by simp [hy]) e
      · exact hn'.1 (e ▸ hy)) h4
    obtain ⟨g', h6, h7⟩ := sim_mono (S' := fun y => S y ∨ y ∈ x :: B) (fun y hy => by
      rcases hy with hy | hy
      · rcases h2 y hy with hy | hy
        · exact .inl hy
        · exact .inr (by simp [hy])
      · exact .inr (by simp [hy])) hg
    refine ⟨g', h7, ?_⟩
    rcases h5 with ⟨e, _⟩ | ⟨_, e⟩
    · exact absurd e hx
    · simp only [List.length_cons]; omega
/-- the first items -/
def firstL (k : Nat) : List Int := (List.range k).map Int.ofNat
theorem firstL_facts (n k : Nat) (hkn : k ≤ n) : firstL k ∈ cfs n k ∧ (firstL k).Nodup := by
  refine ⟨cfs_mem.2 ⟨by simp [firstL], fun x hx => ?_, ?_⟩, ?_⟩
  · obtain ⟨i, hi, rfl⟩ := List.mem_map.1 hx
    have := List.mem_range.1 hi
    exact ⟨Int.natCast_nonneg i, by simp; omega⟩
  · unfold firstL
    rw [List.pairwise_map]
    refine (List.pairwise_lt_range (n := k)).imp ?_
    intro a b h
    simp; omega
  · unfold firstL
    rw [List.nodup_iff_pairwise_ne, List.pairwise_map]
    refine (List.pairwise_lt_range (n := k)).imp ?_
    intro a b h e
    have : a = b := Int.ofNat.inj e
    omega
/-- THE LAW OF PAGING SERVERS -/
theorem paging_servers {n k : Nat} (hk : 1 ≤ k ∧ k ≤ 3) (hn : 1 ≤ n ∧ n ≤ 6) (hkn : k ≤ n) {reqs : List Int} (hr : Pts n reqs) (hl : reqs.length ≤ 100) {F : Nat} (hF : Fewest k (firstL k ++ reqs) F) : leastW n k uniD (firstL k) reqs = (F : Int) - k := by
  obtain ⟨hd, hs⟩ := uni_met n
  obtain ⟨hf, hnd⟩ := firstL_facts n k hkn
  have hlen : (firstL k).length = k := (cfs_mem.1 hf).1
  obtain ⟨l1, Y, c, hY, hS, he⟩ := least_min hk hd hs hn hf hr hl
  -- at least
  obtain ⟨c1, s1, s2⟩ := ser_sim hk reqs Y c hY hS
  obtain ⟨c2, s3, s4⟩ := sim_move hk hf hY s1
  have h1 : F ≤ k + c2 := by
    have := fill_sim (k := k) (l := reqs) (g := c2) (firstL k) [] (by simpa using hnd) (by simp [hlen]) (by simpa using s3)
    have := hF.2 _ (by simpa using this)
    omega
  -- at most
  obtain ⟨g, g1, g2⟩ := sim_fill (firstL k) _ F hnd (fun x _ e => e) hF.1
  obtain ⟨Y', c', hY', hS', hle⟩ := sim_ser hk reqs (firstL k) _ g hf hr (fun x hx => hx.elim (fun e => e.elim) id) g1
  have h2 := l1 Y' c' hY' hS'
  omega
end Go.Proofs.YtdgcohoneijleaaGreat
