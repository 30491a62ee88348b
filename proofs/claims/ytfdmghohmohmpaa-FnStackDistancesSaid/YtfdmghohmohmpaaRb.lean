import Derived.Test.YtfdmghohmohmpaaUb
import Derived.Test.YtfdmghohmohmpaaCo
import Derived.Test.YtfdmghohmohmpaaA
import Derived.Test.YtfdmghohmohmpaaI
import Derived.Test.YtfdmghohmohmpaaSo
import Derived.Test.YtfdmghohmohmpaaRa
import Derived.Test.YtfdmghohmohmpaaRc
/- last order, stack distances, faults of CacheLRU: plain -/
namespace Go.Proofs.Ytfdmghohmohmpaa

theorem snocRec {P : List Int → Prop} (nil : P []) (snoc : ∀ l x, P l → P (l ++ [x])) (l : List Int) : P l := by
  have : ∀ (n : Nat) (l : List Int), l.length = n → P l := by
    intro n
    induction n with
    | zero => intro l h; rw [List.length_eq_zero_iff.1 h]; exact nil
    | succ n ih =>
      intro l h
      have hne : l ≠ [] := fun e => by rw [e] at h; cases h
      rw [← List.dropLast_concat_getLast hne]
      exact snoc _ _ (ih _ (by rw [List.length_dropLast, h]; rfl))
  exact this l.length l rfl
/-- the items in the order of their last requests, the last one first -/
def ordL (l : List Int) : List Int := l.foldl (fun o x => x :: o.erase x) []
theorem ordL_snoc (l : List Int) (x : Int) : ordL (l ++ [x]) = x :: (ordL l).erase x := by
  unfold ordL; rw [List.foldl_append]; rfl
theorem ordL_mem (l : List Int) (y : Int) : y ∈ ordL l ↔ y ∈ l := by
  induction l using snocRec with
  | nil => exact Iff.rfl
  | snoc l x ih =>
    rw [ordL_snoc, List.mem_cons, List.mem_append, List.mem_singleton]
    by_cases e : y = x
    · simp [e]
    · rw [List.mem_erase_of_ne e, ih]
      exact ⟨fun h => h.elim (fun h => absurd h e) .inl, fun h => h.elim .inr (fun h => absurd h e)⟩
theorem ordL_nod (l : List Int) : (ordL l).Nodup := by
  induction l using snocRec with
  | nil => exact List.Pairwise.nil
  | snoc l x ih =>
    rw [ordL_snoc, List.nodup_cons]
    exact ⟨fun h => (List.Nodup.mem_erase_iff ih).1 h |>.1 rfl, ih.erase x⟩
theorem len_diff {a b : List Int} (ha : a.Nodup) (h : ∀ x, x ∈ a ↔ x ∈ b) : a.length = (diffL b).length := by
  have e : diffL a = diffL b := up_ext (diffL_up a) (diffL_up b) (fun x => by rw [diffL_mem, diffL_mem]; exact h x)
  rw [← e]
  have : ∀ (l acc : List Int), l.Nodup → (∀ x ∈ l, x ∉ acc) → (l.foldl putL acc).length = acc.length + l.length := by
    intro l
    induction l with
    | nil => intro acc _ _; rfl
    | cons a l ih =>
      intro acc hn h
      rw [List.nodup_cons] at hn
      have hnew : ∀ {l : List Int} {n : Int}, n ∉ l → (putL l n).length = l.length + 1 := by
        intro l n hn
        induction l with
        | nil => rfl
        | cons a l ih =>
          rw [List.mem_cons, not_or] at hn
          unfold putL
          split
          · rw [List.length_cons, ih hn.2, List.length_cons]
          · rw [if_neg (fun e => hn.1 e.symm)]; rfl
      rw [List.foldl_cons, ih (putL acc a) hn.2 (fun x hx hm => by
        rcases putL_mem.1 hm with hm | rfl
        · exact h x (List.mem_cons_of_mem _ hx) hm
        · exact hn.1 hx), hnew (h a (List.mem_cons_self ..)), List.length_cons]
      omega
  have h2 := this a [] ha (fun x _ hm => by cases hm)
  unfold diffL
  simpa using h2.symm

/-- a CacheLRU that is never full holds the last order -/
theorem lru_big (M : Nat) : ∀ (l : List Int), l.length < M → (runC (newC 1 (M : Int)) l).pages = ordL l ∧ (runC (newC 1 (M : Int)) l).pol = 1 ∧ (runC (newC 1 (M : Int)) l).size = (M : Int) := by
  intro l
  induction l using snocRec with
  | nil => exact fun _ => ⟨rfl, rfl, rfl⟩
  | snoc l x ih =>
    intro hl
    rw [List.length_append, List.length_singleton] at hl
    obtain ⟨h1, h2, h3⟩ := ih (by omega)
    have e : runC (newC 1 (M : Int)) (l ++ [x]) = stepC (runC (newC 1 (M : Int)) l) x := by unfold runC; rw [List.foldl_append]; rfl
    have hc := stepC_const (runC (newC 1 (M : Int)) l) x
    rw [e]
    refine ⟨?_, by rw [hc.1, h2], by rw [hc.2, h3]⟩
    rw [step_1 _ x h2, h1, ordL_snoc, h3]
    have hlen : (ordL l).length ≤ l.length := by
      rw [len_diff (ordL_nod l) (fun y => ordL_mem l y)]
      exact diffL_len_le l
    split
    · rfl
    · rename_i hx
      rw [if_neg (by omega), List.erase_of_not_mem hx]
theorem lru_take (K : Nat) (hK : 1 ≤ K) (l : List Int) : ∀ d : Nat, (runC (newC 1 (K : Int)) l).pages = (runC (newC 1 ((K + d : Nat) : Int)) l).pages.take K := by
  intro d
  induction d with
  | zero =>
    have h0 : Lru K (newC 1 (K : Int)) (newC 1 ((K : Int) + 1)) := ⟨rfl, rfl, rfl, rfl, by omega, by simp [newC], by simp [newC], by simp [newC]⟩
    have h := (lru_run l h0).pre
    rw [Nat.add_zero, List.take_of_length_le]
    rw [h, List.length_take]
    omega
  | succ d ih =>
    have h0 : Lru (K + d) (newC 1 ((K + d : Nat) : Int)) (newC 1 (((K + d : Nat) : Int) + 1)) := ⟨rfl, rfl, rfl, rfl, by omega, by simp [newC], by simp [newC], by simp [newC]⟩
    have h := (lru_run l h0).pre
    rw [ih, h, List.take_take, Nat.min_eq_left (by omega)]
    rfl
/-- what a CacheLRU holds: the first of the last order -/
theorem lru_pages {k : Int} (hk : 1 ≤ k) (l : List Int) : (runC (newC 1 k) l).pages = (ordL l).take k.toNat := by
  obtain ⟨K, rfl⟩ := Int.eq_ofNat_of_zero_le (show 0 ≤ k by omega)
  rw [lru_take K (by omega) l (l.length + 1), Int.toNat_natCast]
  rw [(lru_big (K + (l.length + 1)) l (by omega)).1]

/-- the stack distance of place i, 0 for a first request -/
def distL (l : List Int) (i : Nat) : Int := if l.getD i 0 ∈ l.take i then ((ordL (l.take i)).idxOf (l.getD i 0) : Int) + 1 else 0
theorem ord_split (A : List Int) (x : Int) (B : List Int) : x ∉ B → ∃ R, ordL (A ++ x :: B) = ordL B ++ x :: R := by
  induction B using snocRec with
  | nil => exact fun _ => ⟨(ordL A).erase x, by rw [ordL_snoc]; rfl⟩
  | snoc B y ih =>
    intro hx
    rw [List.mem_append, List.mem_singleton, not_or] at hx
    obtain ⟨R, hR⟩ := ih hx.1
    have e : A ++ x :: (B ++ [y]) = (A ++ x :: B) ++ [y] := by simp
    rw [e, ordL_snoc, hR, ordL_snoc, List.erase_append]
    by_cases hy : y ∈ ordL B
    · rw [if_pos hy]
      exact ⟨R, rfl⟩
    · rw [if_neg hy, List.erase_of_not_mem hy]
      exact ⟨R.erase y, by rw [List.erase_cons_tail (by simpa using hx.2)]; rfl⟩
theorem dist_at {l : List Int} {i j : Nat} (hi : i < l.length) (hj : j < i) (he : l.getD j 0 = l.getD i 0) (hno : ∀ q, j < q → q < i → l.getD q 0 ≠ l.getD i 0) :
    distL l i = ((diffL ((l.take i).drop j)).length : Int) := by
  obtain ⟨x, hx⟩ : ∃ x, l.getD i 0 = x := ⟨_, rfl⟩
  rw [hx] at he hno
  have hjl : j < (l.take i).length := by rw [List.length_take]; omega
  have hd : (l.take i).drop j = x :: (l.take i).drop (j + 1) := by
    rw [List.drop_eq_getElem_cons hjl]
    congr 1
    rw [List.getElem_take, ← he, List.getD_eq_getElem?_getD, List.getElem?_eq_getElem (by omega : j < l.length)]
    rfl
  have hB : x ∉ (l.take i).drop (j + 1) := fun h => by
    obtain ⟨q, hq, hqe⟩ := List.mem_iff_getElem.1 h
    rw [List.length_drop, List.length_take] at hq
    refine hno (j + 1 + q) (by omega) (by omega) ?_
    rw [List.getElem_drop, List.getElem_take] at hqe
    rw [List.getD_eq_getElem?_getD, List.getElem?_eq_getElem (by omega : j + 1 + q < l.length)]
    exact hqe
  have hsp : l.take i = (l.take i).take j ++ x :: (l.take i).drop (j + 1) := by
    conv => lhs; rw [← List.take_append_drop j (l.take i), hd]
  obtain ⟨B, hBB⟩ : ∃ B, (l.take i).drop (j + 1) = B := ⟨_, rfl⟩
  rw [hBB] at hd hB hsp
  obtain ⟨R, hR⟩ := ord_split ((l.take i).take j) x B hB
  have hxo : x ∉ ordL B := fun h => hB ((ordL_mem B x).1 h)
  have hlen : (diffL (x :: B)).length = (ordL B).length + 1 := by
    rw [← len_diff (a := x :: ordL B) (b := x :: B) (List.nodup_cons.2 ⟨hxo, ordL_nod B⟩) (fun y => by rw [List.mem_cons, List.mem_cons, ordL_mem])]
    rfl
  unfold distL
  rw [hx, hd, hlen, if_pos (by rw [hsp]; simp)]
  rw [hsp, hR, List.idxOf_append, if_neg hxo]
  simp
theorem dist_zero {l : List Int} {i : Nat} (hno : ∀ q, q < i → l.getD q 0 ≠ l.getD i 0) (hi : i < l.length) : distL l i = 0 := by
  unfold distL
  rw [if_neg]
  intro h
  obtain ⟨q, hq, hqe⟩ := List.mem_iff_getElem.1 h
  rw [List.length_take] at hq
  refine hno q (by omega) ?_
  rw [List.getElem_take] at hqe
  rw [← hqe, List.getD_eq_getElem?_getD, List.getElem?_eq_getElem (by omega : q < l.length)]
  rfl
theorem mem_take_idx {O : List Int} {x : Int} {K : Nat} : x ∈ O.take K ↔ x ∈ O ∧ O.idxOf x < K := by
  have hO := List.take_append_drop K O
  constructor
  · intro h
    have h1 : O.idxOf x = (O.take K).idxOf x := by
      conv => lhs; rw [← hO]
      rw [List.idxOf_append, if_pos h]
    have h2 := List.idxOf_lt_length_of_mem h
    rw [List.length_take] at h2
    exact ⟨List.mem_of_mem_take h, by omega⟩
  · rintro ⟨h, hlt⟩
    have hl := List.idxOf_lt_length_of_mem h
    have e : O[O.idxOf x] = x := List.getElem_idxOf hl
    rw [← e]
    exact List.mem_iff_getElem.2 ⟨O.idxOf x, by rw [List.length_take]; omega, by rw [List.getElem_take]⟩
theorem lru_hit {k : Int} (hk : 1 ≤ k) (l : List Int) (i : Nat) : hasB (runC (newC 1 k) (l.take i)).pages (l.getD i 0) = !(decide (distL l i = 0 ∨ k < distL l i)) := by
  rw [lru_pages hk, Bool.eq_iff_iff, hasB_true, mem_take_idx, ordL_mem]
  unfold distL
  by_cases h : l.getD i 0 ∈ l.take i
  · rw [if_pos h]
    simp only [h, true_and, Bool.not_eq_true', decide_eq_false_iff_not]
    omega
  · rw [if_neg h]
    exact ⟨fun h2 => absurd h2.1 h, fun h2 => by simp at h2⟩
/-- the faults of a CacheLRU among the first places -/
def missN (l : List Int) (k : Int) : Nat → Nat
  | 0 => 0
  | j + 1 => missN l k j + (if distL l j = 0 ∨ k < distL l j then 1 else 0)
theorem lru_places {k : Int} (hk : 1 ≤ k) (l : List Int) (j : Nat) : (placesTo (newC 1 k) l j).length = missN l k j := by
  induction j with
  | zero => rfl
  | succ j ih =>
    unfold placesTo missN
    rw [lru_hit hk]
    by_cases h : distL l j = 0 ∨ k < distL l j
    · rw [if_neg (by simp [h]), if_pos h, List.length_append, ih]; rfl
    · rw [if_pos (by simp [h]), if_neg h, ih]; rfl
end Go.Proofs.Ytfdmghohmohmpaa

/- last uses, both sides -/
namespace Go.Proofs.Ytfdmghohmohmpaa
open Go.RowKit

/-- the last of the first places with an item, -1 if there is none -/
def lastP (l : List Int) (x : Int) : Nat → Int
  | 0 => -1
  | j + 1 => if l.getD j 0 = x then (j : Int) else lastP l x j
def lastsTo (l : List Int) : Nat → List Int
  | 0 => []
  | j + 1 => lastsTo l j ++ [lastP l (l.getD j 0) j]
theorem lastsTo_len (l : List Int) (j : Nat) : (lastsTo l j).length = j := by
  induction j with
  | zero => rfl
  | succ j ih => simp [lastsTo, ih]
theorem lastsTo_at (l : List Int) : ∀ j i, i < j → (lastsTo l j).getD i 0 = lastP l (l.getD i 0) i := by
  intro j
  induction j with
  | zero => exact fun i hi => absurd hi (Nat.not_lt_zero _)
  | succ j ih =>
    intro i hi
    rw [lastsTo, List.getD_eq_getElem?_getD]
    by_cases e : i < j
    · rw [List.getElem?_append_left (by rw [lastsTo_len]; exact e), ← List.getD_eq_getElem?_getD]
      exact ih i e
    · have e : i = (lastsTo l j).length := by rw [lastsTo_len]; omega
      rw [List.getElem?_append_right (by omega), e, Nat.sub_self, lastsTo_len]
      rfl
theorem lastP_low (l : List Int) (x : Int) : ∀ j, -1 ≤ lastP l x j ∧ lastP l x j < (j : Int) := by
  intro j
  induction j with
  | zero => exact ⟨by unfold lastP; omega, by unfold lastP; omega⟩
  | succ j ih =>
    unfold lastP
    split
    · omega
    · omega
theorem lastP_hit (l : List Int) (x : Int) : ∀ j (p : Nat), lastP l x j = (p : Int) → p < j ∧ l.getD p 0 = x ∧ ∀ q, p < q → q < j → l.getD q 0 ≠ x := by
  intro j
  induction j with
  | zero => intro p h; unfold lastP at h; omega
  | succ j ih =>
    intro p h
    unfold lastP at h
    split at h
    · rename_i e
      have hp : p = j := by omega
      subst hp
      exact ⟨by omega, e, fun q h1 h2 => by omega⟩
    · rename_i e
      obtain ⟨h1, h2, h3⟩ := ih p h
      refine ⟨by omega, h2, fun q h4 h5 => ?_⟩
      by_cases hq : q = j
      · rw [hq]; exact e
      · exact h3 q h4 (by omega)
theorem lastP_no (l : List Int) (x : Int) : ∀ j, lastP l x j < 0 → ∀ q, q < j → l.getD q 0 ≠ x := by
  intro j
  induction j with
  | zero => exact fun _ q h => absurd h (Nat.not_lt_zero _)
  | succ j ih =>
    intro h q hq
    unfold lastP at h
    split at h
    · omega
    · rename_i e
      by_cases hqj : q = j
      · rw [hqj]; exact e
      · exact ih h q (by omega)

set_option maxRecDepth 100000 in
set_option maxHeartbeats 2000000 in
theorem lastUses_any (A : Nat → Prop) (v : Value) (l : List Int) (w : World) (h : RI A w v l) (hll : l.length ≤ 1000000) :
    Calls Try.prog 31 #[v] w (Ret fun r w' => OI w.heap.size w' r (lastsTo l l.length) ∧ Chg No w w') := by
  obtain ⟨a, cap, rfl, hcap, hmax, hlen, _, hc⟩ := id h
  have k0 := (Chg.refl No w).alloc (.cells #[] 3)
  have ho0 : OI w.heap.size (w.alloc (.cells #[] 3)) (.slice (some ⟨w.heap.size, 0, none⟩) 0 0) [] := OI.zero (Nat.le_refl _)
  go_enter Try.func31, Try.ntmps31
  go_wp2_with fail
  go_loopw [3, 10] (fun o i wr => ∃ j : Nat, j ≤ l.length ∧ i = .int .i64 j ∧ OI w.heap.size wr o (lastsTo l j) ∧ Chg No w wr) (fun _ i _ => l.length - (intOf i).toNat)
  case atStart => exact ⟨0, Nat.zero_le _, rfl, ho0, k0⟩
  case round =>
    obtain ⟨j, hj, rfl, ho, hch⟩ := hrel
    by_cases hlt : j < l.length
    · obtain ⟨b, off, rfl, _, hb, hcell⟩ := hc (by intro e; simp [e] at hlt)
      have hcl := (hch.cellD b (off + j) hb (fun e => e)).trans (hcell j hlt)
      obtain ⟨x, hx⟩ : ∃ x, l.getD j 0 = x := ⟨_, rfl⟩
      rw [hx] at hcl
      have HC := Lib.hid hcell
      have HX : Hid (lastsTo l (j + 1) = lastsTo l j ++ [lastP l x j]) := Lib.hid (by rw [lastsTo, hx])
      have hj0 : (0 : Int) ≤ (j : Int) := Int.natCast_nonneg _
      have hj1 : (j : Int) < (l.length : Int) := by omega
      have hjw : IntKind.i64.wrap ((j : Int) + 1) = (j : Int) + 1 := IntWalk.i64_in _ (by omega)
      have hjm : IntKind.i64.wrap ((j : Int) - 1) = (j : Int) - 1 := IntWalk.i64_in _ (by omega)
      obtain ⟨oa, ocap, rfl, _⟩ := id ho.view
      clear hcell hc hx
      go_wp2_with fail
      go_loopw [6] (fun i wr => ∃ q : Nat, q ≤ j ∧ i = .int .i64 ((q : Int) - 1) ∧ Hid (lastP l x q = lastP l x j) ∧ OI w.heap.size wr (.slice oa (lastsTo l j).length ocap) (lastsTo l j) ∧ Chg No w wr) (fun i _ => (intOf i + 1).toNat)
      case atStart => exact ⟨j, Nat.le_refl _, rfl, Lib.hid rfl, ho, hch⟩
      case round =>
        clear ho hch hcl
        obtain ⟨q, hq, rfl, HQ, ho2, hch2⟩ := hrel
        have hsz2 := hch2.size
        cases q with
        | zero =>
          have hval : lastP l x j = -1 := HQ.out.symm
          rw [show ((0 : Nat) : Int) - 1 = -1 from rfl]
          go_wp2_with (at_builtin; refine wapp1 rfl (.tmp 29) (.tmp 31) rfl ho2 rfl rfl (by rw [lastsTo_len]; omega) (by omega) ?_)
          intro v3 w3 h3 k3 f3
          have hown := fun q hq => (ho2.lt q hq).1
          obtain ⟨ob, obc, rfl, _⟩ := h3.view
          have hlp : lastsTo l (j + 1) = lastsTo l j ++ [(-1)] := by rw [HX.out, hval]
          rw [← hlp] at h3 ⊢
          clear hlp
          go_wp2_with fail
          go_round
          case rel => exact ⟨j + 1, hlt, by go_num, h3, hch2.step k3 (fun q hq hl => by have := hown q hq; omega)⟩
          case measure => simp [intOf]; omega
        | succ q =>
          have hc2 := (hch2.cellD b (off + q) hb (fun e => e)).trans (HC.out q (by omega))
          have hq1 : ((q + 1 : Nat) : Int) - 1 = (q : Int) := by omega
          rw [hq1]
          obtain ⟨y, hy⟩ : ∃ y, l.getD q 0 = y := ⟨_, rfl⟩
          rw [hy] at hc2
          have HY := Lib.hid hy
          have hq0 : (0 : Int) ≤ (q : Int) := Int.natCast_nonneg _
          have hql : (q : Int) < (l.length : Int) := by omega
          have hqw : IntKind.i64.wrap ((q : Int) - 1) = (q : Int) - 1 := IntWalk.i64_in _ (by omega)
          clear hy hq1
          by_cases hyx : y = x
          · subst hyx
            have hval : lastP l y j = (q : Int) := by rw [← HQ.out, lastP, if_pos HY.out]
            go_wp2_with (at_builtin; refine wapp1 rfl (.tmp 29) (.tmp 31) rfl ho2 rfl rfl (by rw [lastsTo_len]; omega) (by omega) ?_)
            intro v3 w3 h3 k3 f3
            have hown := fun q hq => (ho2.lt q hq).1
            obtain ⟨ob, obc, rfl, _⟩ := h3.view
            have hlp : lastsTo l (j + 1) = lastsTo l j ++ [(q : Int)] := by rw [HX.out, hval]
            rw [← hlp] at h3 ⊢
            clear hlp
            go_wp2_with fail
            go_round
            case rel => exact ⟨j + 1, hlt, by go_num, h3, hch2.step k3 (fun q hq hl => by have := hown q hq; omega)⟩
            case measure => simp [intOf]; omega
          · have hval : lastP l x q = lastP l x j := by rw [← HQ.out, lastP, if_neg (by rw [HY.out]; exact hyx)]
            go_wp2_with fail
            go_round
            case rel => exact ⟨q, by omega, rfl, Lib.hid hval, ho2, hch2⟩
            case measure => show ((q : Int) - 1 + 1).toNat < ((q : Int) + 1).toNat; omega
    · have hjl : j = l.length := by omega
      subst hjl
      clear hc
      go_wp2_with fail
      go_ret
      exact ⟨_, rfl, ho, hch⟩

set_option maxRecDepth 100000 in
set_option maxHeartbeats 2000000 in
theorem l3Last_any (A : Nat → Prop) (v : Value) (l : List Int) (w : World) (h : RI A w v l) (hll : l.length ≤ 1000000) :
    Calls Try.prog 47 #[v] w (Ret fun r w' => OI w.heap.size w' r (lastsTo l l.length) ∧ Chg No w w') := by
  obtain ⟨a, cap, rfl, hcap, hmax, hlen, _, hc⟩ := id h
  have k0 := (Chg.refl No w).alloc (.cells #[] 3)
  have ho0 : OI w.heap.size (w.alloc (.cells #[] 3)) (.slice (some ⟨w.heap.size, 0, none⟩) 0 0) [] := OI.zero (Nat.le_refl _)
  go_enter Try.func47, Try.ntmps47
  go_wp2_with fail
  go_loopw [3, 4] (fun o i wr => ∃ j : Nat, j ≤ l.length ∧ i = .int .i64 j ∧ OI w.heap.size wr o (lastsTo l j) ∧ Chg No w wr) (fun _ i _ => l.length - (intOf i).toNat)
  case atStart => exact ⟨0, Nat.zero_le _, rfl, ho0, k0⟩
  case round =>
    obtain ⟨j, hj, rfl, ho, hch⟩ := hrel
    by_cases hlt : j < l.length
    · obtain ⟨b, off, rfl, _, hb, hcell⟩ := hc (by intro e; simp [e] at hlt)
      have hcl := (hch.cellD b (off + j) hb (fun e => e)).trans (hcell j hlt)
      obtain ⟨x, hx⟩ : ∃ x, l.getD j 0 = x := ⟨_, rfl⟩
      rw [hx] at hcl
      have HC := Lib.hid hcell
      have HCJ : Hid (w.cell? ⟨b, off + j, none⟩ = some (.int .i64 x)) := Lib.hid (by rw [← hx]; exact hcell j hlt)
      have HX : Hid (lastsTo l (j + 1) = lastsTo l j ++ [lastP l x j]) := Lib.hid (by rw [lastsTo, hx])
      have hj0 : (0 : Int) ≤ (j : Int) := Int.natCast_nonneg _
      have hj1 : (j : Int) < (l.length : Int) := by omega
      have hjw : IntKind.i64.wrap ((j : Int) + 1) = (j : Int) + 1 := IntWalk.i64_in _ (by omega)
      have hjm : IntKind.i64.wrap ((j : Int) - 1) = (j : Int) - 1 := IntWalk.i64_in _ (by omega)
      obtain ⟨oa, ocap, rfl, _⟩ := id ho.view
      clear hcell hc hx
      go_wp2_with fail
      go_loopw [5] (fun i wr => ∃ q : Nat, q ≤ j ∧ i = .int .i64 ((q : Int) - 1) ∧ Hid (lastP l x q = lastP l x j) ∧ OI w.heap.size wr (.slice oa (lastsTo l j).length ocap) (lastsTo l j) ∧ Chg No w wr) (fun i _ => (intOf i + 1).toNat)
      case atStart => exact ⟨j, Nat.le_refl _, rfl, Lib.hid rfl, ho, hch⟩
      case round =>
        clear ho hch hcl
        obtain ⟨q, hq, rfl, HQ, ho2, hch2⟩ := hrel
        have hsz2 := hch2.size
        cases q with
        | zero =>
          have hval : lastP l x j = -1 := HQ.out.symm
          rw [show ((0 : Nat) : Int) - 1 = -1 from rfl]
          go_wp2_with fail
          go_quiet (fail)
          have hd := (Chg.refl No wr).drewN nq
          replace ho2 := ho2.keep hd
          replace hch2 := hch2.keep hd
          generalize wr.drewN nq = W2 at hd ho2 hch2 ⊢
          replace hsz2 := hch2.size
          go_wp2_with (at_builtin; refine wapp1 rfl (.tmp 30) (.tmp 32) rfl ho2 rfl rfl (by rw [lastsTo_len]; omega) (by omega) ?_)
          intro v3 w3 h3 k3 f3
          have hown := fun q hq => (ho2.lt q hq).1
          obtain ⟨ob, obc, rfl, _⟩ := h3.view
          have hlp : lastsTo l (j + 1) = lastsTo l j ++ [(-1)] := by rw [HX.out, hval]
          rw [← hlp] at h3 ⊢
          clear hlp
          go_wp2_with fail
          go_round
          case rel => exact ⟨j + 1, hlt, by go_num, h3, hch2.step k3 (fun q hq hl => by have := hown q hq; omega)⟩
          case measure => simp [intOf]; omega
        | succ q =>
          have hc2 := (hch2.cellD b (off + q) hb (fun e => e)).trans (HC.out q (by omega))
          have hq1 : ((q + 1 : Nat) : Int) - 1 = (q : Int) := by omega
          rw [hq1]
          obtain ⟨y, hy⟩ : ∃ y, l.getD q 0 = y := ⟨_, rfl⟩
          rw [hy] at hc2
          have HY := Lib.hid hy
          have hq0 : (0 : Int) ≤ (q : Int) := Int.natCast_nonneg _
          have hql : (q : Int) < (l.length : Int) := by omega
          have hqw : IntKind.i64.wrap ((q : Int) - 1) = (q : Int) - 1 := IntWalk.i64_in _ (by omega)
          clear hy hq1
          by_cases hyx : y = x
          · subst hyx
            have hval : lastP l y j = (q : Int) := by rw [← HQ.out, lastP, if_pos HY.out]
            have hcj := (hch2.cellD b (off + j) hb (fun e => e)).trans (HCJ.out)
            go_wp2_with fail
            go_quiet (fail)
            have hd := (Chg.refl No wr).drewN nq
            replace ho2 := ho2.keep hd
            replace hch2 := hch2.keep hd
            generalize wr.drewN nq = W2 at hd ho2 hch2 ⊢
            replace hsz2 := hch2.size
            go_wp2_with (at_builtin; refine wapp1 rfl (.tmp 30) (.tmp 32) rfl ho2 rfl rfl (by rw [lastsTo_len]; omega) (by omega) ?_)
            intro v3 w3 h3 k3 f3
            have hown := fun q hq => (ho2.lt q hq).1
            obtain ⟨ob, obc, rfl, _⟩ := h3.view
            have hlp : lastsTo l (j + 1) = lastsTo l j ++ [(q : Int)] := by rw [HX.out, hval]
            rw [← hlp] at h3 ⊢
            clear hlp
            go_wp2_with fail
            go_round
            case rel => exact ⟨j + 1, hlt, by go_num, h3, hch2.step k3 (fun q hq hl => by have := hown q hq; omega)⟩
            case measure => simp [intOf]; omega
          · have hval : lastP l x q = lastP l x j := by rw [← HQ.out, lastP, if_neg (by rw [HY.out]; exact hyx)]
            have hcj := (hch2.cellD b (off + j) hb (fun e => e)).trans (HCJ.out)
            go_wp2_with fail
            go_quiet (fail)
            have hd := (Chg.refl No wr).drewN nq
            replace ho2 := ho2.keep hd
            replace hch2 := hch2.keep hd
            generalize wr.drewN nq = W2 at hd ho2 hch2 ⊢
            replace hsz2 := hch2.size
            go_wp2_with fail
            go_round
            case rel => exact ⟨q, by omega, rfl, Lib.hid hval, ho2, hch2⟩
            case measure => show ((q : Int) - 1 + 1).toNat < ((q : Int) + 1).toNat; omega
    · have hjl : j = l.length := by omega
      subst hjl
      clear hc
      go_wp2_with fail
      go_ret
      exact ⟨_, rfl, ho, hch⟩
end Go.Proofs.Ytfdmghohmohmpaa

/- stack distances, both sides -/
namespace Go.Proofs.Ytfdmghohmohmpaa
open Go.RowKit

def distTo (l : List Int) : Nat → List Int
  | 0 => []
  | j + 1 => distTo l j ++ [distL l j]
theorem distTo_len (l : List Int) (j : Nat) : (distTo l j).length = j := by
  induction j with
  | zero => rfl
  | succ j ih => simp [distTo, ih]
theorem distTo_at (l : List Int) : ∀ j i, i < j → (distTo l j).getD i 0 = distL l i := by
  intro j
  induction j with
  | zero => exact fun i hi => absurd hi (Nat.not_lt_zero _)
  | succ j ih =>
    intro i hi
    rw [distTo, List.getD_eq_getElem?_getD]
    by_cases e : i < j
    · rw [List.getElem?_append_left (by rw [distTo_len]; exact e), ← List.getD_eq_getElem?_getD]
      exact ih i e
    · have e : i = (distTo l j).length := by rw [distTo_len]; omega
      rw [List.getElem?_append_right (by omega), e, Nat.sub_self, distTo_len]
      rfl
theorem dist_last {l : List Int} {i : Nat} (hi : i < l.length) : (lastP l (l.getD i 0) i < 0 → distL l i = 0) ∧
    ∀ p : Nat, lastP l (l.getD i 0) i = (p : Int) → p < i ∧ distL l i = ((diffL ((l.take i).drop p)).length : Int) := by
  refine ⟨fun h => dist_zero (lastP_no l _ i h) hi, fun p h => ?_⟩
  obtain ⟨h1, h2, h3⟩ := lastP_hit l _ i p h
  exact ⟨h1, dist_at hi h1 h2 h3⟩

set_option maxRecDepth 100000 in
set_option maxHeartbeats 2000000 in
theorem stackDistances_any (A : Nat → Prop) (v : Value) (l : List Int) (w : World) (h : RI A w v l) (hll : l.length ≤ 1000000) :
    Calls Try.prog 24 #[v] w (Ret fun r w' => OI w.heap.size w' r (distTo l l.length) ∧ Chg No w w') := by
  obtain ⟨a, cap, rfl, hcap, hmax, hlen, _, hc⟩ := id h
  clear hc
  have k0 := (Chg.refl No w).alloc (.cells #[] 3)
  have ho0 : OI w.heap.size (w.alloc (.cells #[] 3)) (.slice (some ⟨w.heap.size, 0, none⟩) 0 0) [] := OI.zero (Nat.le_refl _)
  have hz0 := World.size_alloc w (.cells #[] 3)
  have q1 := Lib.hid (lastUses_any A _ l _ (h.keep k0) hll)
  have HZ := Lib.hid hz0
  clear hz0
  go_enter Try.func24, Try.ntmps24
  go_wp2_with fail
  refine (q1.out).mono ?_
  rintro e w1 ⟨lv, rfl, oL, k1⟩
  have hz0 := HZ.out
  have hs1 := k1.size
  rw [hz0] at oL hs1
  obtain ⟨la, lc, hle, _⟩ := id oL.view
  rw [lastsTo_len] at hle
  subst hle
  have ho1 := ho0.keep k1
  have hch1 := k0.keep k1
  have hd1 : ∀ q, own (.slice (some ⟨w.heap.size, 0, none⟩) 0 0) q → ¬ own (.slice la l.length lc) q := fun q hq e => by
    have := own_slice.1 hq
    have := (oL.lt q e).1
    omega
  clear ho0 k0 k1 q1 HZ hz0
  go_wp2_with fail
  go_loopw [3, 10] (fun o i wr => ∃ j : Nat, j ≤ l.length ∧ i = .int .i64 j ∧ OI w.heap.size wr o (distTo l j) ∧ (∀ q, own o q → ¬ own (.slice la l.length lc) q) ∧ OI (w.heap.size + 1) wr (.slice la l.length lc) (lastsTo l l.length) ∧ Chg No w wr) (fun _ i _ => l.length - (intOf i).toNat)
  case atStart => exact ⟨0, Nat.zero_le _, rfl, ho1, hd1, oL, hch1⟩
  case round =>
    clear ho1 hd1 oL hch1
    obtain ⟨j, hj, rfl, ho, hd, oL, hch⟩ := hrel
    have hsz := hch.size
    by_cases hlt : j < l.length
    · have hll2 : (lastsTo l l.length).length = l.length := lastsTo_len l _
      obtain ⟨lb, lo, hlb, _, hlsz, hlc⟩ := (oL.readNo).cellAt (by intro e; rw [e] at hll2; simp at hll2; omega)
      subst hlb
      have hcl := hlc j (by omega)
      rw [lastsTo_at _ _ _ hlt] at hcl
      obtain ⟨p, hp⟩ : ∃ p, lastP l (l.getD j 0) j = p := ⟨_, rfl⟩
      obtain ⟨hneg, hpos⟩ := dist_last hlt
      rw [hp] at hcl hneg hpos
      have hlow := lastP_low l (l.getD j 0) j
      rw [hp] at hlow
      have hdt : distTo l (j + 1) = distTo l j ++ [distL l j] := rfl
      have hj0 : (0 : Int) ≤ (j : Int) := Int.natCast_nonneg _
      have hj1 : (j : Int) < (l.length : Int) := by omega
      have hjw : IntKind.i64.wrap ((j : Int) + 1) = (j : Int) + 1 := IntWalk.i64_in _ (by omega)
      have hdl : (distTo l j).length < 17592186044416 := by rw [distTo_len]; omega
      obtain ⟨oa, ocap, rfl, _⟩ := id ho.view
      clear hlc hp
      by_cases hp0 : p < 0
      · have HDT : Hid (distTo l (j + 1) = distTo l j ++ [0]) := Lib.hid (by rw [hdt, hneg hp0])
        clear hneg hpos hdt
        go_wp2_with (at_builtin; refine wapp1 rfl (.tmp 17) (.tmp 18) rfl ho rfl rfl hdl (by omega) ?_)
        intro v3 w3 h3 k3 f3
        have hown := fun q hq => (ho.lt q hq).1
        have hlo := oL.lt
        have oL3 := oL.step k3 (fun q hq e => hd q e hq)
        have hd3 : ∀ q, own v3 q → ¬ own (.slice (some ⟨lb, lo, none⟩) l.length lc) q := fun q hq e => by
          rcases f3 q hq with h | h
          · exact hd q h e
          · have := (hlo q e).2; omega
        have hch3 := hch.step k3 (fun q hq hl => by have := hown q hq; omega)
        obtain ⟨ob, obc, rfl, _⟩ := h3.view
        rw [← HDT.out] at h3 hd3 ⊢
        go_wp2_with fail
        go_round
        case rel => exact ⟨j + 1, hlt, by go_num, h3, hd3, oL3, hch3⟩
        case measure => simp [intOf]; omega
      · obtain ⟨pn, rfl⟩ : ∃ pn : Nat, p = (pn : Int) := ⟨p.toNat, by omega⟩
        obtain ⟨hpj, hdv⟩ := hpos pn rfl
        obtain ⟨dl, hdl2⟩ : ∃ dl, diffL ((l.take j).drop pn) = dl := ⟨_, rfl⟩
        rw [hdl2] at hdv
        have HDT : Hid (distTo l (j + 1) = distTo l j ++ [(dl.length : Int)]) := Lib.hid (by rw [hdt, hdv])
        obtain ⟨xs, hxs, hxr⟩ := (h.keep hch).mid pn j _ _ rfl rfl (by omega) (by omega)
        have q2 := Lib.hid (rising_any A xs _ wr hxr)
        rw [hdl2] at q2
        clear hneg hpos hdt hdv hdl2 hxr
        go_wp2_with fail
        refine (q2.out).mono ?_
        rintro e w2 ⟨rv, rfl, oR, k2⟩
        obtain ⟨ra, rc, rfl, _⟩ := oR.view
        have ho2 := ho.keep k2
        have oL2 := oL.keep k2
        have hch2 := hch.keep k2
        have hsz2 := hch2.size
        go_wp2_with (at_builtin; refine wapp1 rfl (.tmp 20) (.tmp 27) rfl ho2 rfl rfl hdl (by omega) ?_)
        intro v3 w3 h3 k3 f3
        have hown := fun q hq => (ho2.lt q hq).1
        have hlo := oL2.lt
        have oL3 := oL2.step k3 (fun q hq e => hd q e hq)
        have hd3 : ∀ q, own v3 q → ¬ own (.slice (some ⟨lb, lo, none⟩) l.length lc) q := fun q hq e => by
          rcases f3 q hq with h | h
          · exact hd q h e
          · have := (hlo q e).2; omega
        have hch3 := hch2.step k3 (fun q hq hl => by have := hown q hq; omega)
        obtain ⟨ob, obc, rfl, _⟩ := h3.view
        rw [← HDT.out] at h3 hd3 ⊢
        go_wp2_with fail
        go_round
        case rel => exact ⟨j + 1, hlt, by go_num, h3, hd3, oL3, hch3⟩
        case measure => simp [intOf]; omega
    · have hjl : j = l.length := by omega
      subst hjl
      go_wp2_with fail
      go_ret
      exact ⟨_, rfl, ho, hch⟩
set_option maxRecDepth 100000 in
set_option maxHeartbeats 2000000 in
theorem l4Distances_any (A : Nat → Prop) (v : Value) (l : List Int) (w : World) (h : RI A w v l) (hll : l.length ≤ 1000000) :
    Calls Try.prog 26 #[v] w (Ret fun r w' => OI w.heap.size w' r (distTo l l.length) ∧ Chg No w w') := by
  obtain ⟨a, cap, rfl, hcap, hmax, hlen, _, hc⟩ := id h
  clear hc
  have k0 := (Chg.refl No w).alloc (.cells #[] 3)
  have ho0 : OI w.heap.size (w.alloc (.cells #[] 3)) (.slice (some ⟨w.heap.size, 0, none⟩) 0 0) [] := OI.zero (Nat.le_refl _)
  have hz0 := World.size_alloc w (.cells #[] 3)
  have q1 := Lib.hid (l3Last_any A _ l _ (h.keep k0) hll)
  have HZ := Lib.hid hz0
  clear hz0
  go_enter Try.func26, Try.ntmps26
  go_wp2_with fail
  refine (q1.out).mono ?_
  rintro e w1 ⟨lv, rfl, oL, k1⟩
  have hz0 := HZ.out
  have hs1 := k1.size
  rw [hz0] at oL hs1
  obtain ⟨la, lc, hle, _⟩ := id oL.view
  rw [lastsTo_len] at hle
  subst hle
  have ho1 := ho0.keep k1
  have hch1 := k0.keep k1
  have hd1 : ∀ q, own (.slice (some ⟨w.heap.size, 0, none⟩) 0 0) q → ¬ own (.slice la l.length lc) q := fun q hq e => by
    have := own_slice.1 hq
    have := (oL.lt q e).1
    omega
  clear ho0 k0 k1 q1 HZ hz0
  go_wp2_with fail
  go_loopw [3, 5] (fun o i wr => ∃ j : Nat, j ≤ l.length ∧ i = .int .i64 j ∧ OI w.heap.size wr o (distTo l j) ∧ (∀ q, own o q → ¬ own (.slice la l.length lc) q) ∧ OI (w.heap.size + 1) wr (.slice la l.length lc) (lastsTo l l.length) ∧ Chg No w wr) (fun _ i _ => l.length - (intOf i).toNat)
  case atStart => exact ⟨0, Nat.zero_le _, rfl, ho1, hd1, oL, hch1⟩
  case round =>
    clear ho1 hd1 oL hch1
    obtain ⟨j, hj, rfl, ho, hd, oL, hch⟩ := hrel
    have hsz := hch.size
    by_cases hlt : j < l.length
    · have hll2 : (lastsTo l l.length).length = l.length := lastsTo_len l _
      obtain ⟨lb, lo, hlb, _, hlsz, hlc⟩ := (oL.readNo).cellAt (by intro e; rw [e] at hll2; simp at hll2; omega)
      subst hlb
      have hcl := hlc j (by omega)
      rw [lastsTo_at _ _ _ hlt] at hcl
      obtain ⟨p, hp⟩ : ∃ p, lastP l (l.getD j 0) j = p := ⟨_, rfl⟩
      obtain ⟨hneg, hpos⟩ := dist_last hlt
      rw [hp] at hcl hneg hpos
      have hlow := lastP_low l (l.getD j 0) j
      rw [hp] at hlow
      have hdt : distTo l (j + 1) = distTo l j ++ [distL l j] := rfl
      have hj0 : (0 : Int) ≤ (j : Int) := Int.natCast_nonneg _
      have hj1 : (j : Int) < (l.length : Int) := by omega
      have hjw : IntKind.i64.wrap ((j : Int) + 1) = (j : Int) + 1 := IntWalk.i64_in _ (by omega)
      have hdl : (distTo l j).length < 17592186044416 := by rw [distTo_len]; omega
      obtain ⟨oa, ocap, rfl, _⟩ := id ho.view
      clear hlc hp
      by_cases hp0 : p < 0
      · have HDT : Hid (distTo l (j + 1) = distTo l j ++ [0]) := Lib.hid (by rw [hdt, hneg hp0])
        clear hneg hpos hdt
        go_wp2_with (at_builtin; refine wapp1 rfl (.tmp 20) (.tmp 21) rfl ho rfl rfl hdl (by omega) ?_)
        intro v3 w3 h3 k3 f3
        have hown := fun q hq => (ho.lt q hq).1
        have hlo := oL.lt
        have oL3 := oL.step k3 (fun q hq e => hd q e hq)
        have hd3 : ∀ q, own v3 q → ¬ own (.slice (some ⟨lb, lo, none⟩) l.length lc) q := fun q hq e => by
          rcases f3 q hq with h | h
          · exact hd q h e
          · have := (hlo q e).2; omega
        have hch3 := hch.step k3 (fun q hq hl => by have := hown q hq; omega)
        obtain ⟨ob, obc, rfl, _⟩ := h3.view
        rw [← HDT.out] at h3 hd3 ⊢
        go_wp2_with fail
        go_round
        case rel => exact ⟨j + 1, hlt, by go_num, h3, hd3, oL3, hch3⟩
        case measure => simp [intOf]; omega
      · obtain ⟨pn, rfl⟩ : ∃ pn : Nat, p = (pn : Int) := ⟨p.toNat, by omega⟩
        obtain ⟨hpj, hdv⟩ := hpos pn rfl
        obtain ⟨dl, hdl2⟩ : ∃ dl, diffL ((l.take j).drop pn) = dl := ⟨_, rfl⟩
        rw [hdl2] at hdv
        have HDT : Hid (distTo l (j + 1) = distTo l j ++ [(dl.length : Int)]) := Lib.hid (by rw [hdt, hdv])
        obtain ⟨xs, hxs, hxr⟩ := (h.keep hch).mid pn j _ _ rfl rfl (by omega) (by omega)
        have q2 := Lib.hid (l3Different_any A xs _ wr hxr)
        rw [hdl2] at q2
        clear hneg hpos hdt hdv hdl2 hxr
        go_wp2_with fail
        refine (q2.out).mono ?_
        rintro e w2 ⟨rv, rfl, oR, k2⟩
        obtain ⟨ra, rc, rfl, _⟩ := oR.view
        have ho2 := ho.keep k2
        have oL2 := oL.keep k2
        have hch2 := hch.keep k2
        have hsz2 := hch2.size
        go_wp2_with (at_builtin; refine wapp1 rfl (.tmp 23) (.tmp 33) rfl ho2 rfl rfl hdl (by omega) ?_)
        intro v3 w3 h3 k3 f3
        have hown := fun q hq => (ho2.lt q hq).1
        have hlo := oL2.lt
        have oL3 := oL2.step k3 (fun q hq e => hd q e hq)
        have hd3 : ∀ q, own v3 q → ¬ own (.slice (some ⟨lb, lo, none⟩) l.length lc) q := fun q hq e => by
          rcases f3 q hq with h | h
          · exact hd q h e
          · have := (hlo q e).2; omega
        have hch3 := hch2.step k3 (fun q hq hl => by have := hown q hq; omega)
        obtain ⟨ob, obc, rfl, _⟩ := h3.view
        rw [← HDT.out] at h3 hd3 ⊢
        go_wp2_with fail
        go_round
        case rel => exact ⟨j + 1, hlt, by go_num, h3, hd3, oL3, hch3⟩
        case measure => simp [intOf]; omega
    · have hjl : j = l.length := by omega
      subst hjl
      go_wp2_with fail
      go_ret
      exact ⟨_, rfl, ho, hch⟩
end Go.Proofs.Ytfdmghohmohmpaa

/- StackDistances both sides, LastUses -/
namespace Go.Proofs.Ytfdmghohmohmpaa
open Go.RowKit

theorem reqB_len {n : Int} {l : List Int} (h : reqB n l = true) : l.length ≤ 60 ∧ (1 ≤ n ∧ n ≤ 8) ∧ ∀ x ∈ l, 0 ≤ x ∧ x ≤ n - 1 := by
  unfold reqB at h
  simp only [Bool.and_eq_true, decide_eq_true_eq, inB_iff] at h
  exact ⟨h.1.2, h.1.1, fun x hx => inB_iff.1 (List.all_eq_true.1 h.2 x hx)⟩
set_option maxRecDepth 100000 in
set_option maxHeartbeats 1000000 in
theorem implStack_any (A : Nat → Prop) (n : Int) (v : Value) (l : List Int) (w : World) (h : RI A w v l) :
    Calls Try.prog 6 #[.int .i64 n, v] w (Ret2 fun v0 v1 w' => v1 = .bool (reqB n l) ∧ OI w.heap.size w' v0 (if reqB n l then distTo l l.length else []) ∧ Chg No w w') := by
  obtain ⟨r, hr⟩ : ∃ r, (if reqB n l then (distTo l l.length) else []) = r := ⟨_, rfl⟩
  rw [hr]
  have q1 := Lib.hid (IsRequests_any A _ l n w h)
  rw [show (inB n 1 8 && decide (l.length ≤ 60) && belowB n l) = reqB n l from rfl] at q1
  cases hq : reqB n l
  · rw [hq] at hr q1
    have HR : Hid (r = []) := Lib.hid (by rw [← hr]; rfl)
    clear hr hq
    go_enter Try.func6, Try.ntmps6
    go_wp2_with fail
    refine (q1.out).mono ?_
    rintro e w1 ⟨_, rfl, rfl, k1⟩
    go_wp2_with fail
    go_ret2
    exact ⟨_, _, rfl, rfl, by rw [HR.out]; exact OI.nil _ _, k1⟩
  · have hlen := (reqB_len hq).1
    rw [hq] at hr q1
    have HR : Hid ((distTo l l.length) = r) := Lib.hid hr
    clear hr hq
    go_enter Try.func6, Try.ntmps6
    go_wp2_with fail
    refine (q1.out).mono ?_
    rintro e w1 ⟨_, rfl, rfl, k1⟩
    go_wp2_with fail
    refine (stackDistances_any A _ l w1 (h.keep k1) (by omega)).mono ?_
    rintro e w2 ⟨v2, rfl, o2, k2⟩
    rw [HR.out] at o2
    have hs1 := k1.size
    go_wp2_with fail
    go_ret2
    exact ⟨_, _, rfl, rfl, o2.weak hs1, k1.keep k2⟩
set_option maxRecDepth 100000 in
set_option maxHeartbeats 1000000 in
theorem implLastUses_any (A : Nat → Prop) (n : Int) (v : Value) (l : List Int) (w : World) (h : RI A w v l) :
    Calls Try.prog 15 #[.int .i64 n, v] w (Ret2 fun v0 v1 w' => v1 = .bool (reqB n l) ∧ OI w.heap.size w' v0 (if reqB n l then lastsTo l l.length else []) ∧ Chg No w w') := by
  obtain ⟨r, hr⟩ : ∃ r, (if reqB n l then (lastsTo l l.length) else []) = r := ⟨_, rfl⟩
  rw [hr]
  have q1 := Lib.hid (IsRequests_any A _ l n w h)
  rw [show (inB n 1 8 && decide (l.length ≤ 60) && belowB n l) = reqB n l from rfl] at q1
  cases hq : reqB n l
  · rw [hq] at hr q1
    have HR : Hid (r = []) := Lib.hid (by rw [← hr]; rfl)
    clear hr hq
    go_enter Try.func15, Try.ntmps15
    go_wp2_with fail
    refine (q1.out).mono ?_
    rintro e w1 ⟨_, rfl, rfl, k1⟩
    go_wp2_with fail
    go_ret2
    exact ⟨_, _, rfl, rfl, by rw [HR.out]; exact OI.nil _ _, k1⟩
  · have hlen := (reqB_len hq).1
    rw [hq] at hr q1
    have HR : Hid ((lastsTo l l.length) = r) := Lib.hid hr
    clear hr hq
    go_enter Try.func15, Try.ntmps15
    go_wp2_with fail
    refine (q1.out).mono ?_
    rintro e w1 ⟨_, rfl, rfl, k1⟩
    go_wp2_with fail
    refine (lastUses_any A _ l w1 (h.keep k1) (by omega)).mono ?_
    rintro e w2 ⟨v2, rfl, o2, k2⟩
    rw [HR.out] at o2
    have hs1 := k1.size
    go_wp2_with fail
    go_ret2
    exact ⟨_, _, rfl, rfl, o2.weak hs1, k1.keep k2⟩
set_option maxRecDepth 100000 in
set_option maxHeartbeats 1000000 in
theorem specStack_any (A : Nat → Prop) (n : Int) (v : Value) (l : List Int) (w : World) (h : RI A w v l) :
    Calls Try.prog 7 #[.int .i64 n, v] w (Ret2 fun v0 v1 w' => v1 = .bool (reqB n l) ∧ OI w.heap.size w' v0 (if reqB n l then distTo l l.length else []) ∧ Chg No w w') := by
  obtain ⟨r, hr⟩ : ∃ r, (if reqB n l then distTo l l.length else []) = r := ⟨_, rfl⟩
  rw [hr]
  have q1 := Lib.hid (l3Good_any A _ l n w h)
  rw [show (inB n 1 8 && decide (l.length ≤ 60) && belowB n l) = reqB n l from rfl] at q1
  cases hq : reqB n l
  · rw [hq] at hr q1
    have HR : Hid (r = []) := Lib.hid (by rw [← hr]; rfl)
    clear hr hq
    go_enter Try.func7, Try.ntmps7
    go_wp2_with fail
    refine (q1.out).mono ?_
    rintro e w1 ⟨rfl, rfl⟩
    go_wp2_with fail
    go_ret2
    exact ⟨_, _, rfl, rfl, by rw [HR.out]; exact OI.zero (Nat.le_refl _), (Chg.refl No _).alloc _⟩
  · have hlen := (reqB_len hq).1
    rw [hq] at hr q1
    have HR : Hid (distTo l l.length = r) := Lib.hid hr
    clear hr hq
    go_enter Try.func7, Try.ntmps7
    go_wp2_with fail
    refine (q1.out).mono ?_
    rintro e w1 ⟨rfl, hw1⟩
    subst hw1
    go_wp2_with fail
    refine (l4Distances_any A _ l w h (by omega)).mono ?_
    rintro e w2 ⟨v2, rfl, o2, k2⟩
    rw [HR.out] at o2
    go_wp2_with fail
    go_ret2
    exact ⟨_, _, rfl, rfl, o2, k2⟩
end Go.Proofs.Ytfdmghohmohmpaa

/- last order: the reference's side -/
namespace Go.Proofs.Ytfdmghohmohmpaa
open Go.RowKit

theorem ordL_cons (x : Int) (S : List Int) : ordL (x :: S) = if x ∈ S then ordL S else ordL S ++ [x] := by
  induction S using snocRec with
  | nil => rfl
  | snoc S y ih =>
    have e : x :: (S ++ [y]) = (x :: S) ++ [y] := rfl
    rw [e, ordL_snoc, ordL_snoc, ih]
    by_cases hx : x ∈ S
    · rw [if_pos hx, if_pos (List.mem_append_left _ hx)]
    · rw [if_neg hx]
      have hxo : x ∉ ordL S := fun h => hx ((ordL_mem S x).1 h)
      by_cases hy : x = y
      · subst hy
        rw [if_pos (by simp), List.erase_append, if_neg hxo, List.erase_of_not_mem hxo]
        simp
      · rw [if_neg (by simp [hx, hy]), List.erase_append]
        split
        · rfl
        · rename_i h
          rw [List.erase_of_not_mem h, List.erase_of_not_mem (by simpa using fun e => hy e.symm)]
          rfl
theorem ordL_drop (l : List Int) (q : Nat) (hq : q < l.length) : ordL (l.drop q) = if hasB (ordL (l.drop (q + 1))) (l.getD q 0) then ordL (l.drop (q + 1)) else ordL (l.drop (q + 1)) ++ [l.getD q 0] := by
  have e : l.drop q = l.getD q 0 :: l.drop (q + 1) := by
    rw [List.drop_eq_getElem_cons hq, List.getD_eq_getElem?_getD, List.getElem?_eq_getElem hq]
    rfl
  rw [e, ordL_cons]
  by_cases h : l.getD q 0 ∈ l.drop (q + 1)
  · rw [if_pos h, if_pos (hasB_true.2 ((ordL_mem _ _).2 h))]
  · rw [if_neg h, if_neg (fun e => h ((ordL_mem _ _).1 (hasB_true.1 e)))]
theorem ordL_len (l : List Int) : (ordL l).length ≤ l.length := by
  rw [len_diff (ordL_nod l) (fun y => ordL_mem l y)]
  exact diffL_len_le l

set_option maxRecDepth 100000 in
set_option maxHeartbeats 2000000 in
theorem l4Order_any (A : Nat → Prop) (v : Value) (l : List Int) (w : World) (h : RI A w v l) (hll : l.length ≤ 1000000) :
    Calls Try.prog 30 #[v] w (Ret fun r w' => OI w.heap.size w' r (ordL l) ∧ Chg No w w') := by
  obtain ⟨a, cap, rfl, hcap, hmax, hlen, _, hc⟩ := id h
  have k0 := (Chg.refl No w).alloc (.cells #[] 3)
  have ho0 : OI w.heap.size (w.alloc (.cells #[] 3)) (.slice (some ⟨w.heap.size, 0, none⟩) 0 0) [] := OI.zero (Nat.le_refl _)
  have hw0 : IntKind.i64.wrap ((l.length : Int) - 1) = (l.length : Int) - 1 := IntWalk.i64_in _ (by omega)
  go_enter Try.func30, Try.ntmps30
  go_wp2_with fail
  go_loopw [3, 4] (fun o i wr => ∃ q : Nat, q ≤ l.length ∧ i = .int .i64 ((q : Int) - 1) ∧ OI w.heap.size wr o (ordL (l.drop q)) ∧ Chg No w wr) (fun _ i _ => (intOf i + 1).toNat)
  case atStart => exact ⟨l.length, Nat.le_refl _, rfl, by rw [List.drop_length]; exact ho0, k0⟩
  case round =>
    obtain ⟨q, hq, rfl, ho, hch⟩ := hrel
    have hsz := hch.size
    cases q with
    | zero =>
      rw [show ((0 : Nat) : Int) - 1 = -1 from rfl]
      rw [List.drop_zero] at ho
      clear hc
      go_wp2_with fail
      go_ret
      exact ⟨_, rfl, ho, hch⟩
    | succ q =>
      obtain ⟨b, off, rfl, _, hb, hcell⟩ := hc (by intro e; rw [e] at hq; simp at hq)
      have hcl := (hch.cellD b (off + q) hb (fun e => e)).trans (hcell q (by omega))
      have hstep := ordL_drop l q (by omega)
      have hol : (ordL (l.drop (q + 1))).length ≤ 1000000 := by
        have := ordL_len (l.drop (q + 1))
        rw [List.length_drop] at this
        omega
      obtain ⟨x, hx⟩ : ∃ x, l.getD q 0 = x := ⟨_, rfl⟩
      rw [hx] at hcl hstep
      obtain ⟨O, hO⟩ : ∃ O, ordL (l.drop (q + 1)) = O := ⟨_, rfl⟩
      rw [hO] at ho hstep hol
      rw [show ((q + 1 : Nat) : Int) - 1 = (q : Int) by omega]
      have hq0 : (0 : Int) ≤ (q : Int) := Int.natCast_nonneg _
      have hql : (q : Int) < (l.length : Int) := by omega
      have hqw : IntKind.i64.wrap ((q : Int) - 1) = (q : Int) - 1 := IntWalk.i64_in _ (by omega)
      obtain ⟨oa, ocap, rfl, _⟩ := id ho.view
      have hol2 : O.length < 17592186044416 := by omega
      clear hcell hc hx hO hol
      cases hh : hasB O x
      · have HS : Hid (ordL (l.drop q) = O ++ [x]) := Lib.hid (by rw [hstep, hh]; rfl)
        clear hstep
        go_wp2_with (first
          | (go_at_call 51; refine (l1Has_any No _ _ _ _ ho.readNo).mono ?_; rintro e w' ⟨rfl, hww⟩; subst hww; rw [hh])
          | (at_builtin; refine wapp1 rfl (.tmp 20) (.tmp 25) rfl ho rfl rfl hol2 (by omega) ?_))
        intro v3 w3 h3 k3 f3
        have hown := fun q hq => (ho.lt q hq).1
        obtain ⟨ob, obc, rfl, _⟩ := h3.view
        rw [← HS.out] at h3 ⊢
        go_wp2_with fail
        go_round
        case rel => exact ⟨q, by omega, rfl, h3, hch.step k3 (fun q hq hl => by have := hown q hq; omega)⟩
        case measure => show ((q : Int) - 1 + 1).toNat < ((q : Int) + 1).toNat; omega
      · have HS : Hid (ordL (l.drop q) = O) := Lib.hid (by rw [hstep, hh]; rfl)
        clear hstep
        go_wp2_with (go_at_call 51; refine (l1Has_any No _ _ _ _ ho.readNo).mono ?_; rintro e w' ⟨rfl, hww⟩; subst hww; rw [hh])
        go_round
        case rel => exact ⟨q, by omega, rfl, by rw [HS.out]; exact ho, hch⟩
        case measure => show ((q : Int) - 1 + 1).toNat < ((q : Int) + 1).toNat; omega
end Go.Proofs.Ytfdmghohmohmpaa

/- counts of numbers; DistanceCounts, both sides; LastOrder of the reference -/
namespace Go.Proofs.Ytfdmghohmohmpaa
open Go.RowKit

theorem subn_len : ∀ (l m : List Int), l.Nodup → (∀ x, x ∈ l → x ∈ m) → l.length ≤ m.length
  | [], _, _, _ => Nat.zero_le _
  | x :: l, m, hn, h => by
    rw [List.nodup_cons] at hn
    have hx := h x (by simp)
    have h1 := subn_len l (m.erase x) hn.2 (fun y hy => (List.mem_erase_of_ne (fun e => hn.1 (by rw [← e]; exact hy))).2 (h y (by simp [hy])))
    rw [List.length_erase_of_mem hx] at h1
    have := List.length_pos_of_mem hx
    simp only [List.length_cons]
    omega
def belowL (n : Nat) : List Int := (List.range n).map (fun k : Nat => (k : Int))
theorem ordL_bound {n : Nat} {l : List Int} (h : ∀ x ∈ l, 0 ≤ x ∧ x ≤ (n : Int) - 1) : (ordL l).length ≤ n := by
  have h1 := subn_len (ordL l) (belowL n) (ordL_nod l) (fun x hx => by
    have := h x ((ordL_mem l x).1 hx)
    simp only [belowL, List.mem_map, List.mem_range]
    exact ⟨x.toNat, by omega, by omega⟩)
  simpa [belowL] using h1
theorem dist_bound {n : Nat} {l : List Int} (h : ∀ x ∈ l, 0 ≤ x ∧ x ≤ (n : Int) - 1) (i : Nat) : 0 ≤ distL l i ∧ distL l i ≤ (n : Int) := by
  unfold distL
  split
  · rename_i hm
    have h1 := List.idxOf_lt_length_of_mem ((ordL_mem (l.take i) (l.getD i 0)).2 hm)
    have h2 : (ordL (l.take i)).length ≤ n := ordL_bound (fun x hx => h x (List.mem_of_mem_take hx))
    omega
  · omega
/-- how often each number below n occurs -/
def cntL (n : Nat) (d : List Int) : List Int := d.foldl (fun m x => m.set x.toNat (m.getD x.toNat 0 + 1)) (List.replicate n 0)
theorem cntL_len (n : Nat) (d : List Int) : (cntL n d).length = n := by
  induction d using snocRec with
  | nil => simp [cntL]
  | snoc d x ih => rw [cntL, List.foldl_append]; simp only [List.foldl_cons, List.foldl_nil, List.length_set]; exact ih
theorem cntL_snoc (n : Nat) (d : List Int) (j : Nat) (hj : j < d.length) : cntL n (d.take (j + 1)) = (cntL n (d.take j)).set (d.getD j 0).toNat ((cntL n (d.take j)).getD (d.getD j 0).toNat 0 + 1) := by
  rw [take_snoc d j hj, cntL, List.foldl_append]
  have : d.getD j 0 = d[j] := by rw [List.getD_eq_getElem?_getD, List.getElem?_eq_getElem hj]; rfl
  rw [this]
  rfl
theorem cnt_bound (n : Nat) (d : List Int) : ∀ i, 0 ≤ (cntL n d).getD i 0 ∧ (cntL n d).getD i 0 ≤ (d.length : Int) := by
  induction d using snocRec with
  | nil =>
    intro i
    rw [cntL, List.foldl_nil, List.getD_eq_getElem?_getD, List.getElem?_replicate]
    split <;> simp
  | snoc d x ih =>
    intro i
    have e : cntL n (d ++ [x]) = (cntL n d).set x.toNat ((cntL n d).getD x.toNat 0 + 1) := by rw [cntL, List.foldl_append]; rfl
    rw [e, List.getD_eq_getElem?_getD, List.getElem?_set, List.length_append, List.length_singleton]
    have h1 := ih i
    have h2 := ih x.toNat
    split
    · split
      · show 0 ≤ (cntL n d).getD x.toNat 0 + 1 ∧ (cntL n d).getD x.toNat 0 + 1 ≤ _
        rw [show ((d.length + 1 : Nat) : Int) = (d.length : Int) + 1 by omega]
        exact ⟨by omega, by omega⟩
      · exact ⟨Int.le_refl _, Int.natCast_nonneg _⟩
    · rw [← List.getD_eq_getElem?_getD]
      rw [show ((d.length + 1 : Nat) : Int) = (d.length : Int) + 1 by omega]
      exact ⟨h1.1, by omega⟩

set_option maxRecDepth 100000 in
set_option maxHeartbeats 2000000 in
theorem l3Counts_any (A : Nat → Prop) (n : Nat) (v : Value) (d : List Int) (w : World) (h : RI A w v d) (hn : n ≤ 1000) (hd : ∀ i, i < d.length → 0 ≤ d.getD i 0 ∧ d.getD i 0 < (n : Int)) (hdl : d.length ≤ 1000) :
    Calls Try.prog 27 #[.int .i64 (n : Int), v] w (Ret fun r w' => OI w.heap.size w' r (cntL n d) ∧ Chg No w w') := by
  obtain ⟨a, cap, rfl, hcap, hmax, hlen, _, hc⟩ := id h
  have HD := Lib.hid hd
  clear hd
  go_enter Try.func27, Try.ntmps27
  go_wp2_with (refine wmake rfl (.tmp 7) (.tmp 7) rfl n rfl rfl (by omega) ?_)
  intro W hW hch0
  have hgb : w.heap.size < W.heap.size := (hW.at).2.2.2.1
  go_wp2_with fail
  go_loopw [6] (fun i wr => ∃ j : Nat, j ≤ d.length ∧ i = .int .i64 j ∧ OI w.heap.size wr (.slice (some ⟨w.heap.size, 0, none⟩) n n) (cntL n (d.take j)) ∧ Chg No w wr) (fun i _ => d.length - (intOf i).toNat)
  case atStart => exact ⟨0, Nat.zero_le _, rfl, hW, hch0⟩
  case round =>
    obtain ⟨j, hj, rfl, ho, hch⟩ := hrel
    by_cases hlt : j < d.length
    · obtain ⟨b, off, rfl, _, hb, hcell⟩ := hc (by intro e; simp [e] at hlt)
      have hcl := (hch.cellD b (off + j) hb (fun e => e)).trans (hcell j hlt)
      have hr := HD.out j hlt
      have hsn := cntL_snoc n d j hlt
      obtain ⟨x, hx⟩ : ∃ x, d.getD j 0 = x := ⟨_, rfl⟩
      rw [hx] at hcl hr hsn
      obtain ⟨q, rfl⟩ : ∃ q : Nat, x = (q : Int) := ⟨x.toNat, by omega⟩
      rw [Int.toNat_natCast] at hsn
      have hll := cntL_len n (d.take j)
      have hcb := cnt_bound n (d.take j) q
      obtain ⟨M, hM⟩ : ∃ M, cntL n (d.take j) = M := ⟨_, rfl⟩
      rw [hM] at ho hsn hll hcb
      have hoc := ho.at.1 q (by omega)
      have hof := ho.at.2.1 q
      obtain ⟨y, hy⟩ : ∃ y, M.getD q 0 = y := ⟨_, rfl⟩
      rw [hy] at hoc hsn hcb
      have HSN := Lib.hid hsn
      have hlt2 : (d.take j).length ≤ 1000 := by rw [List.length_take]; omega
      have hyw : IntKind.i64.wrap (y + 1) = y + 1 := IntWalk.i64_in _ (by omega)
      have hj0 : (0 : Int) ≤ (j : Int) := Int.natCast_nonneg _
      have hj1 : (j : Int) < (d.length : Int) := by omega
      have hq0 : (0 : Int) ≤ (q : Int) := Int.natCast_nonneg _
      have hq1 : (q : Int) < (n : Int) := hr.2
      have hw1 : IntKind.i64.wrap ((j : Int) + 1) = (j : Int) + 1 := IntWalk.i64_in _ (by omega)
      clear hcell hc hx hM hy hsn hr hcb hll
      go_wp2_with fail
      go_region
      go_wp2_with fail
      obtain ⟨o1, o2⟩ := ho.store q (y + 1)
      refine ⟨⟨j + 1, hlt, by go_num, by rw [HSN.out]; exact o1.keep (Chg.refl No _).drew, (hch.step o2 (fun q hq hl => by omega)).drew⟩, ?_⟩
      simp [intOf]
      omega
    · have hjl : j = d.length := by omega
      subst hjl
      clear hc
      rw [List.take_length] at ho
      go_wp2_with fail
      go_ret
      exact ⟨_, rfl, ho, hch⟩
end Go.Proofs.Ytfdmghohmohmpaa

/- DistanceCounts, both sides; LastOrder of the reference -/
namespace Go.Proofs.Ytfdmghohmohmpaa
open Go.RowKit

theorem dist_in {n : Int} {l : List Int} (h : reqB n l = true) : ∀ i, i < (distTo l l.length).length → 0 ≤ (distTo l l.length).getD i 0 ∧ (distTo l l.length).getD i 0 < ((n.toNat + 1 : Nat) : Int) := by
  obtain ⟨_, h2, h3⟩ := reqB_len h
  intro i hi
  rw [distTo_len] at hi
  rw [distTo_at _ _ _ hi]
  have := dist_bound (n := n.toNat) (l := l) (fun x hx => by have := h3 x hx; omega) i
  omega
set_option maxRecDepth 100000 in
set_option maxHeartbeats 1000000 in
theorem specCounts_any (A : Nat → Prop) (n : Int) (v : Value) (l : List Int) (w : World) (h : RI A w v l) :
    Calls Try.prog 9 #[.int .i64 n, v] w (Ret2 fun v0 v1 w' => v1 = .bool (reqB n l) ∧ OI w.heap.size w' v0 (if reqB n l then cntL (n.toNat + 1) (distTo l l.length) else []) ∧ Chg No w w') := by
  obtain ⟨r, hr⟩ : ∃ r, (if reqB n l then cntL (n.toNat + 1) (distTo l l.length) else []) = r := ⟨_, rfl⟩
  rw [hr]
  have q1 := Lib.hid (l3Good_any A _ l n w h)
  rw [show (inB n 1 8 && decide (l.length ≤ 60) && belowB n l) = reqB n l from rfl] at q1
  cases hq : reqB n l
  · rw [hq] at hr q1
    have HR : Hid (r = []) := Lib.hid (by rw [← hr]; rfl)
    clear hr hq
    go_enter Try.func9, Try.ntmps9
    go_wp2_with fail
    refine (q1.out).mono ?_
    rintro e w1 ⟨rfl, rfl⟩
    go_wp2_with fail
    go_ret2
    exact ⟨_, _, rfl, rfl, by rw [HR.out]; exact OI.zero (Nat.le_refl _), (Chg.refl No _).alloc _⟩
  · obtain ⟨hlen, hn, _⟩ := reqB_len hq
    have hdi := Lib.hid (dist_in hq)
    rw [hq] at hr q1
    have HR : Hid (cntL (n.toNat + 1) (distTo l l.length) = r) := Lib.hid hr
    have hnw : IntKind.i64.wrap (n + 1) = ((n.toNat + 1 : Nat) : Int) := (IntWalk.i64_in _ (by omega)).trans (by omega)
    clear hr hq
    obtain ⟨N, hN⟩ : ∃ N, n.toNat + 1 = N := ⟨_, rfl⟩
    have hN1 : N ≤ 10 := by omega
    rw [hN] at hdi HR hnw
    go_enter Try.func9, Try.ntmps9
    go_wp2_with fail
    refine (q1.out).mono ?_
    rintro e w1 ⟨rfl, hw1⟩
    subst hw1
    go_wp2_with fail
    refine (l4Distances_any A _ l w h (by omega)).mono ?_
    rintro e w2 ⟨v2, rfl, o2, k2⟩
    go_wp2_with fail
    refine (l3Counts_any No N v2 _ w2 o2.readNo (by omega) hdi.out (by rw [distTo_len]; omega)).mono ?_
    rintro e w3 ⟨v3, rfl, o3, k3⟩
    rw [HR.out] at o3
    have hs2 := k2.size
    go_wp2_with fail
    go_ret2
    exact ⟨_, _, rfl, rfl, o3.weak hs2, k2.keep k3⟩

set_option maxRecDepth 100000 in
set_option maxHeartbeats 1000000 in
theorem specLastOrder_any (A : Nat → Prop) (n : Int) (v : Value) (l : List Int) (w : World) (h : RI A w v l) :
    Calls Try.prog 13 #[.int .i64 n, v] w (Ret2 fun v0 v1 w' => v1 = .bool (reqB n l) ∧ OI w.heap.size w' v0 (if reqB n l then ordL l else []) ∧ Chg No w w') := by
  obtain ⟨r, hr⟩ : ∃ r, (if reqB n l then ordL l else []) = r := ⟨_, rfl⟩
  rw [hr]
  have q1 := Lib.hid (l3Good_any A _ l n w h)
  rw [show (inB n 1 8 && decide (l.length ≤ 60) && belowB n l) = reqB n l from rfl] at q1
  cases hq : reqB n l
  · rw [hq] at hr q1
    have HR : Hid (r = []) := Lib.hid (by rw [← hr]; rfl)
    clear hr hq
    go_enter Try.func13, Try.ntmps13
    go_wp2_with fail
    refine (q1.out).mono ?_
    rintro e w1 ⟨rfl, rfl⟩
    go_wp2_with fail
    go_ret2
    exact ⟨_, _, rfl, rfl, by rw [HR.out]; exact OI.zero (Nat.le_refl _), (Chg.refl No _).alloc _⟩
  · have hlen := (reqB_len hq).1
    rw [hq] at hr q1
    have HR : Hid (ordL l = r) := Lib.hid hr
    clear hr hq
    go_enter Try.func13, Try.ntmps13
    go_wp2_with fail
    refine (q1.out).mono ?_
    rintro e w1 ⟨rfl, hw1⟩
    subst hw1
    go_wp2_with fail
    refine (l4Order_any A _ l w h (by omega)).mono ?_
    rintro e w2 ⟨v2, rfl, o2, k2⟩
    rw [HR.out] at o2
    go_wp2_with fail
    go_ret2
    exact ⟨_, _, rfl, rfl, o2, k2⟩

set_option maxRecDepth 100000 in
set_option maxHeartbeats 2000000 in
theorem implCounts_any (A : Nat → Prop) (n : Int) (v : Value) (l : List Int) (w : World) (h : RI A w v l) :
    Calls Try.prog 8 #[.int .i64 n, v] w (Ret2 fun v0 v1 w' => v1 = .bool (reqB n l) ∧ OI w.heap.size w' v0 (if reqB n l then cntL (n.toNat + 1) (distTo l l.length) else []) ∧ Chg No w w') := by
  obtain ⟨r, hr⟩ : ∃ r, (if reqB n l then cntL (n.toNat + 1) (distTo l l.length) else []) = r := ⟨_, rfl⟩
  rw [hr]
  have q1 := Lib.hid (IsRequests_any A _ l n w h)
  rw [show (inB n 1 8 && decide (l.length ≤ 60) && belowB n l) = reqB n l from rfl] at q1
  cases hq : reqB n l
  · rw [hq] at hr q1
    have HR : Hid (r = []) := Lib.hid (by rw [← hr]; rfl)
    clear hr hq
    go_enter Try.func8, Try.ntmps8
    go_wp2_with fail
    refine (q1.out).mono ?_
    rintro e w1 ⟨_, rfl, rfl, k1⟩
    go_wp2_with fail
    go_ret2
    exact ⟨_, _, rfl, rfl, by rw [HR.out]; exact OI.nil _ _, k1⟩
  · obtain ⟨hlen, hn, _⟩ := reqB_len hq
    have HD := Lib.hid (dist_in hq)
    rw [hq] at hr q1
    have HR : Hid (cntL (n.toNat + 1) (distTo l l.length) = r) := Lib.hid hr
    have hnw : IntKind.i64.wrap (n + 1) = ((n.toNat + 1 : Nat) : Int) := (IntWalk.i64_in _ (by omega)).trans (by omega)
    clear hr hq
    obtain ⟨N, hN⟩ : ∃ N, n.toNat + 1 = N := ⟨_, rfl⟩
    have hN1 : N ≤ 10 := by omega
    rw [hN] at HD HR hnw
    go_enter Try.func8, Try.ntmps8
    go_wp2_with fail
    refine (q1.out).mono ?_
    rintro e w1 ⟨_, rfl, rfl, k1⟩
    go_wp2_with (refine wmake rfl (.tmp 14) (.tmp 14) rfl N rfl rfl (by omega) ?_)
    intro W hW hch0
    have hs1 := k1.size
    have hgb : w1.heap.size < W.heap.size := (hW.at).2.2.2.1
    go_wp2_with fail
    refine (stackDistances_any A _ l W ((h.keep k1).keep hch0) (by omega)).mono ?_
    rintro e w2 ⟨dv, rfl, oD, k2⟩
    have hs2 := k2.size
    have hch2 := (k1.keep hch0).keep k2
    have ho2 := hW.keep k2
    obtain ⟨d, hd⟩ : ∃ d, distTo l l.length = d := ⟨_, rfl⟩
    have hdl : d.length ≤ 60 := by rw [← hd, distTo_len]; exact hlen
    rw [hd] at oD HD HR
    obtain ⟨da, dc, rfl, _⟩ := id oD.view
    have hrD := oD.read (A := fun q => q = w1.heap.size) (fun q hq e => by have := (oD.lt q hq).1; omega)
    clear hd hW hch0 k1 k2 q1
    obtain ⟨g, hg⟩ : ∃ g, w1.heap.size = g := ⟨_, rfl⟩
    rw [hg] at ho2 hrD hs1 hgb ⊢
    go_wp2_with fail
    go_loopw [19] (fun i wr => ∃ j : Nat, j ≤ d.length ∧ i = .int .i64 j ∧ OI g wr (.slice (some ⟨g, 0, none⟩) N N) (cntL N (d.take j)) ∧ RI (fun q => q = g) wr (.slice da d.length dc) d ∧ Chg No w wr) (fun i _ => d.length - (intOf i).toNat)
    case atStart => exact ⟨0, Nat.zero_le _, rfl, ho2, hrD, hch2⟩
    case round =>
      obtain ⟨j, hj, rfl, ho, hrd, hch⟩ := hrel
      by_cases hlt : j < d.length
      · obtain ⟨_, _, he, _, _, _, _, hc⟩ := id hrd
        simp only [Value.slice.injEq, true_and] at he
        obtain ⟨rfl, rfl⟩ := he
        obtain ⟨b, off, rfl, hbg, hb, hcell⟩ := hc (by intro e; simp [e] at hlt)
        have hcl := hcell j hlt
        have hr := HD.out j hlt
        have hsn := cntL_snoc N d j hlt
        obtain ⟨x, hx⟩ : ∃ x, d.getD j 0 = x := ⟨_, rfl⟩
        rw [hx] at hcl hr hsn
        obtain ⟨q, rfl⟩ : ∃ q : Nat, x = (q : Int) := ⟨x.toNat, by omega⟩
        rw [Int.toNat_natCast] at hsn
        have hll := cntL_len N (d.take j)
        have hcb := cnt_bound N (d.take j) q
        obtain ⟨M, hM⟩ : ∃ M, cntL N (d.take j) = M := ⟨_, rfl⟩
        rw [hM] at ho hsn hll hcb
        have hoc := ho.at.1 q (by omega)
        have hof := ho.at.2.1 q
        obtain ⟨y, hy⟩ : ∃ y, M.getD q 0 = y := ⟨_, rfl⟩
        rw [hy] at hoc hsn hcb
        have HSN := Lib.hid hsn
        have hlt2 : (d.take j).length ≤ 60 := by rw [List.length_take]; omega
        have hyw : IntKind.i64.wrap (y + 1) = y + 1 := IntWalk.i64_in _ (by omega)
        have hj0 : (0 : Int) ≤ (j : Int) := Int.natCast_nonneg _
        have hj1 : (j : Int) < (d.length : Int) := by omega
        have hq0 : (0 : Int) ≤ (q : Int) := Int.natCast_nonneg _
        have hq1 : (q : Int) < (N : Int) := hr.2
        have hw1 : IntKind.i64.wrap ((j : Int) + 1) = (j : Int) + 1 := IntWalk.i64_in _ (by omega)
        clear hcell hc hx hM hy hsn hr hcb hll
        go_wp2_with fail
        obtain ⟨o1, o2⟩ := ho.store q (y + 1)
        go_round
        case rel => exact ⟨j + 1, hlt, by go_num, by rw [HSN.out]; exact o1, hrd.step o2 (fun q hq => hq), hch.step o2 (fun q hq hl => by omega)⟩
        case measure => simp [intOf]; omega
      · have hjl : j = d.length := by omega
        subst hjl
        rw [List.take_length] at ho
        rw [HR.out] at ho
        go_wp2_with fail
        go_ret2
        exact ⟨_, _, rfl, rfl, ho.weak (by omega), hch⟩
end Go.Proofs.Ytfdmghohmohmpaa

/- CurveOf, both sides -/
namespace Go.Proofs.Ytfdmghohmohmpaa
open Go.RowKit

/-- the faults of the first k sizes -/
def crvTo (l : List Int) : Nat → List Int
  | 0 => []
  | k + 1 => crvTo l k ++ [(missN l ((k : Int) + 1) l.length : Int)]
theorem crvTo_len (l : List Int) (k : Nat) : (crvTo l k).length = k := by
  induction k with
  | zero => rfl
  | succ k ih => simp [crvTo, ih]
theorem missN_le (l : List Int) (k : Int) (j : Nat) : missN l k j ≤ j := by
  induction j with
  | zero => exact Nat.le_refl _
  | succ j ih => unfold missN; split <;> omega
/-- the faults among the first j places, one more where a mark stands -/
def crvM (l : List Int) (j q : Nat) : List Int := (List.range 6).map (fun k => if k < q then (missN l ((k : Int) + 1) (j + 1) : Int) else (missN l ((k : Int) + 1) j : Int))
theorem crvM_len (l : List Int) (j q : Nat) : (crvM l j q).length = 6 := by simp [crvM]
theorem crvM_at (l : List Int) (j q k : Nat) (hk : k < 6) : (crvM l j q).getD k 0 = if k < q then (missN l ((k : Int) + 1) (j + 1) : Int) else (missN l ((k : Int) + 1) j : Int) := by
  unfold crvM
  rw [List.getD_eq_getElem?_getD, List.getElem?_map, List.getElem?_range hk]
  rfl
theorem crvM_next (l : List Int) (j : Nat) : crvM l j 6 = crvM l (j + 1) 0 := by
  unfold crvM
  refine List.map_congr_left (fun k hk => ?_)
  rw [List.mem_range] at hk
  rw [if_pos hk, if_neg (Nat.not_lt_zero _)]
theorem crvM_zero (l : List Int) : crvM l 0 0 = [0, 0, 0, 0, 0, 0] := rfl
theorem crvM_done (l : List Int) : crvM l l.length 0 = crvTo l 6 := rfl
theorem crvM_step (l : List Int) (j q : Nat) (_hq : q < 6) : crvM l j (q + 1) = (crvM l j q).set q (missN l ((q : Int) + 1) (j + 1) : Int) := by
  refine List.ext_getElem (by rw [List.length_set, crvM_len, crvM_len]) (fun k h1 h2 => ?_)
  rw [crvM_len] at h1
  have e1 := crvM_at l j (q + 1) k h1
  have e2 := crvM_at l j q k h1
  rw [List.getD_eq_getElem?_getD, List.getElem?_eq_getElem (by rw [crvM_len]; exact h1)] at e1 e2
  simp only [Option.getD_some] at e1 e2
  rw [e1, List.getElem_set]
  by_cases h : q = k
  · subst h; rw [if_pos (Nat.lt_succ_self _), if_pos rfl]
  · rw [if_neg h, e2]
    by_cases h3 : k < q
    · rw [if_pos h3, if_pos (by omega)]
    · rw [if_neg h3, if_neg (by omega)]
theorem crvM_keep (l : List Int) (j q : Nat) (hq : q < 6) (h : missN l ((q : Int) + 1) (j + 1) = missN l ((q : Int) + 1) j) : crvM l j (q + 1) = crvM l j q := by
  rw [crvM_step l j q hq]
  have e2 := crvM_at l j q q hq
  rw [if_neg (Nat.lt_irrefl _), ← h] at e2
  rw [← e2]
  refine List.ext_getElem (by rw [List.length_set]) (fun k h1 h2 => ?_)
  rw [List.getElem_set]
  split
  · rename_i e
    subst e
    rw [List.getD_eq_getElem?_getD, List.getElem?_eq_getElem h2]
    rfl
  · rfl

set_option maxRecDepth 100000 in
set_option maxHeartbeats 2000000 in
theorem specCurve_any (A : Nat → Prop) (n : Int) (v : Value) (l : List Int) (w : World) (h : RI A w v l) :
    Calls Try.prog 11 #[.int .i64 n, v] w (Ret2 fun v0 v1 w' => v1 = .bool (reqB n l) ∧ OI w.heap.size w' v0 (if reqB n l then crvTo l 6 else []) ∧ Chg No w w') := by
  obtain ⟨r, hr⟩ : ∃ r, (if reqB n l then crvTo l 6 else []) = r := ⟨_, rfl⟩
  rw [hr]
  have k0 := (Chg.refl No w).alloc (.cells #[] 3)
  have ho0 : OI w.heap.size (w.alloc (.cells #[] 3)) (.slice (some ⟨w.heap.size, 0, none⟩) 0 0) [] := OI.zero (Nat.le_refl _)
  have hz0 := Lib.hid (World.size_alloc w (.cells #[] 3))
  have q1 := Lib.hid (l3Good_any A _ l n _ (h.keep k0))
  rw [show (inB n 1 8 && decide (l.length ≤ 60) && belowB n l) = reqB n l from rfl] at q1
  cases hq : reqB n l
  · rw [hq] at hr q1
    have HR : Hid (r = []) := Lib.hid (by rw [← hr]; rfl)
    clear hr hq
    go_enter Try.func11, Try.ntmps11
    go_wp2_with fail
    refine (q1.out).mono ?_
    rintro e w1 ⟨rfl, hw1⟩
    subst hw1
    go_wp2_with fail
    go_ret2
    exact ⟨_, _, rfl, rfl, by rw [HR.out]; exact ho0, k0⟩
  · obtain ⟨hlen, hn, _⟩ := reqB_len hq
    rw [hq] at hr q1
    have HR : Hid (crvTo l 6 = r) := Lib.hid hr
    have q2 := Lib.hid (l4Distances_any A _ l _ (h.keep k0) (by omega))
    clear hr hq
    go_enter Try.func11, Try.ntmps11
    go_wp2_with fail
    refine (q1.out).mono ?_
    rintro e w1 ⟨rfl, hw1⟩
    subst hw1
    go_wp2_with fail
    refine (q2.out).mono ?_
    rintro e w2 ⟨dv, rfl, oD, k2⟩
    have hs0 := hz0.out
    have hs2 := k2.size
    rw [hs0] at oD hs2
    have ho2 := ho0.keep k2
    have hch2 := k0.keep k2
    obtain ⟨da, dc, hde, _⟩ := id oD.view
    rw [distTo_len] at hde
    subst hde
    have hd2 : ∀ q, own (.slice (some ⟨w.heap.size, 0, none⟩) 0 0) q → ¬ own (.slice da l.length dc) q := fun q hq e => by
      have := own_slice.1 hq
      have := (oD.lt q e).1
      omega
    clear ho0 k0 k2 q1 q2 hz0 hs0
    go_wp2_with fail
    go_loopw [6, 8] (fun o i wr => ∃ k : Nat, k ≤ 6 ∧ i = .int .i64 ((k : Int) + 1) ∧ OI w.heap.size wr o (crvTo l k) ∧ (∀ q, own o q → ¬ own (.slice da l.length dc) q) ∧ OI (w.heap.size + 1) wr (.slice da l.length dc) (distTo l l.length) ∧ Chg No w wr) (fun _ i _ => (7 - intOf i).toNat)
    case atStart => exact ⟨0, by omega, rfl, ho2, hd2, oD, hch2⟩
    case round =>
      clear ho2 hd2 oD hch2
      obtain ⟨k, hk, rfl, ho, hd, oD, hch⟩ := hrel
      have hsz := hch.size
      obtain ⟨oa, ocap, hoe, _⟩ := id ho.view
      subst hoe
      have hkw : IntKind.i64.wrap ((k : Int) + 1 + 1) = (k : Int) + 1 + 1 := IntWalk.i64_in _ (by omega)
      by_cases hk6 : k < 6
      · have hk1 : (k : Int) + 1 ≤ 6 := by omega
        go_wp2_with fail
        go_loop [9, 10] (fun m i => ∃ j : Nat, j ≤ l.length ∧ i = .int .i64 j ∧ m = .int .i64 (missN l ((k : Int) + 1) j : Int)) (fun _ i => l.length - (intOf i).toNat)
        case atStart => exact ⟨0, Nat.zero_le _, rfl, rfl⟩
        case round =>
          obtain ⟨j, hj, rfl, rfl⟩ := hrel
          have hml := missN_le l ((k : Int) + 1) j
          by_cases hlt : j < l.length
          · have hll2 : (distTo l l.length).length = l.length := distTo_len l _
            obtain ⟨db, dof, hdb, _, hdsz, hdc⟩ := (oD.readNo).cellAt (by intro e; rw [e] at hll2; simp at hll2; omega)
            subst hdb
            have hcl := hdc j (by omega)
            rw [distTo_at _ _ _ hlt] at hcl
            have hms : missN l ((k : Int) + 1) (j + 1) = missN l ((k : Int) + 1) j + (if distL l j = 0 ∨ (k : Int) + 1 < distL l j then 1 else 0) := rfl
            obtain ⟨x, hx⟩ : ∃ x, distL l j = x := ⟨_, rfl⟩
            rw [hx] at hcl hms
            obtain ⟨mm, hmm⟩ : ∃ mm, missN l ((k : Int) + 1) j = mm := ⟨_, rfl⟩
            rw [hmm] at hms hml ⊢
            have HMS := Lib.hid hms
            have hmw : IntKind.i64.wrap ((mm : Int) + 1) = (mm : Int) + 1 := IntWalk.i64_in _ (by omega)
            have hj0 : (0 : Int) ≤ (j : Int) := Int.natCast_nonneg _
            have hj1 : (j : Int) < (l.length : Int) := by omega
            have hjw : IntKind.i64.wrap ((j : Int) + 1) = (j : Int) + 1 := IntWalk.i64_in _ (by omega)
            clear hdc hx hmm hms
            by_cases hx0 : x = 0
            · go_wp2_with fail
              go_round
              case rel => exact ⟨j + 1, hlt, by go_num, by rw [HMS.out, if_pos (.inl hx0)]; go_num⟩
              case measure => simp [intOf]; omega
            · by_cases hxk : (k : Int) + 1 < x
              · go_wp2_with fail
                go_round
                case rel => exact ⟨j + 1, hlt, by go_num, by rw [HMS.out, if_pos (.inr hxk)]; go_num⟩
                case measure => simp [intOf]; omega
              · go_wp2_with fail
                go_round
                case rel => exact ⟨j + 1, hlt, by go_num, by rw [HMS.out, if_neg (fun e => e.elim hx0 hxk)]; rfl⟩
                case measure => simp [intOf]; omega
          · have hjl : j = l.length := by omega
            subst hjl
            have hcl2 : (crvTo l k).length < 17592186044416 := by rw [crvTo_len]; omega
            go_wp2_with (at_builtin; refine wapp1 rfl (.tmp 44) (.tmp 46) rfl ho rfl rfl hcl2 (by omega) ?_)
            intro v3 w3 h3 k3 f3
            have hown := fun q hq => (ho.lt q hq).1
            have hlo := oD.lt
            have oD3 := oD.step k3 (fun q hq e => hd q e hq)
            have hd3 : ∀ q, own v3 q → ¬ own (.slice da l.length dc) q := fun q hq e => by
              rcases f3 q hq with h | h
              · exact hd q h e
              · have := (hlo q e).2; omega
            have hch3 := hch.step k3 (fun q hq hl => by have := hown q hq; omega)
            obtain ⟨ob, obc, rfl, _⟩ := h3.view
            have e : crvTo l k ++ [(missN l ((k : Int) + 1) l.length : Int)] = crvTo l (k + 1) := rfl
            rw [e] at h3 hd3 ⊢
            clear e
            go_wp2_with fail
            go_round
            case rel => exact ⟨k + 1, by omega, by go_num, h3, hd3, oD3, hch3⟩
            case measure => simp [intOf]; omega
      · have hk6' : k = 6 := by omega
        subst hk6'
        go_wp2_with fail
        go_ret2
        exact ⟨_, _, rfl, rfl, by rw [← HR.out]; exact ho, hch⟩

set_option maxRecDepth 100000 in
set_option maxHeartbeats 4000000 in
theorem implCurve_any (A : Nat → Prop) (n : Int) (v : Value) (l : List Int) (w : World) (h : RI A w v l) :
    Calls Try.prog 10 #[.int .i64 n, v] w (Ret2 fun v0 v1 w' => v1 = .bool (reqB n l) ∧ OI w.heap.size w' v0 (if reqB n l then crvTo l 6 else []) ∧ Chg No w w') := by
  obtain ⟨r, hr⟩ : ∃ r, (if reqB n l then crvTo l 6 else []) = r := ⟨_, rfl⟩
  rw [hr]
  have q1 := Lib.hid (IsRequests_any A _ l n w h)
  rw [show (inB n 1 8 && decide (l.length ≤ 60) && belowB n l) = reqB n l from rfl] at q1
  cases hq : reqB n l
  · rw [hq] at hr q1
    have HR : Hid (r = []) := Lib.hid (by rw [← hr]; rfl)
    clear hr hq
    go_enter Try.func10, Try.ntmps10
    go_wp2_with fail
    refine (q1.out).mono ?_
    rintro e w1 ⟨_, rfl, rfl, k1⟩
    go_wp2_with fail
    go_ret2
    exact ⟨_, _, rfl, rfl, by rw [HR.out]; exact OI.nil _ _, k1⟩
  · obtain ⟨hlen, hn, _⟩ := reqB_len hq
    rw [hq] at hr q1
    have HR : Hid (crvTo l 6 = r) := Lib.hid hr
    clear hr hq
    go_enter Try.func10, Try.ntmps10
    go_wp2_with fail
    refine (q1.out).mono ?_
    rintro e w1 ⟨_, rfl, rfl, k1⟩
    go_wp2_with (refine wmake rfl (.const (.int .i64 6)) (.const (.int .i64 6)) rfl 6 rfl rfl (by omega) ?_)
    intro W hW hch0
    have hs1 := k1.size
    have hgb : w1.heap.size < W.heap.size := (hW.at).2.2.2.1
    go_wp2_with fail
    refine (stackDistances_any A _ l W ((h.keep k1).keep hch0) (by omega)).mono ?_
    rintro e w2 ⟨dv, rfl, oD, k2⟩
    have hch2 := (k1.keep hch0).keep k2
    have ho2 := hW.keep k2
    obtain ⟨da, dc, hde, _⟩ := id oD.view
    rw [distTo_len] at hde
    subst hde
    have hrD := oD.read (A := fun q => q = w1.heap.size) (fun q hq e => by have := (oD.lt q hq).1; omega)
    rw [← crvM_zero l] at ho2
    clear hW hch0 k1 k2 q1
    obtain ⟨g, hg⟩ : ∃ g, w1.heap.size = g := ⟨_, rfl⟩
    rw [hg] at ho2 hrD hs1 hgb ⊢
    go_wp2_with fail
    go_loopw [18] (fun i wr => ∃ j : Nat, j ≤ l.length ∧ i = .int .i64 j ∧ OI g wr (.slice (some ⟨g, 0, none⟩) 6 6) (crvM l j 0) ∧ RI (fun q => q = g) wr (.slice da l.length dc) (distTo l l.length) ∧ Chg No w wr) (fun i _ => l.length - (intOf i).toNat)
    case atStart => exact ⟨0, Nat.zero_le _, rfl, ho2, hrD, hch2⟩
    case round =>
      clear ho2 hrD hch2
      obtain ⟨j, hj, rfl, ho, hrd, hch⟩ := hrel
      by_cases hlt : j < l.length
      · have hll2 : (distTo l l.length).length = l.length := distTo_len l _
        obtain ⟨db, dof, hdb, hdg, hdsz, hdc⟩ := hrd.cellAt (by intro e; rw [e] at hll2; simp at hll2; omega)
        subst hdb
        have hcl := hdc j (by omega)
        rw [distTo_at _ _ _ hlt] at hcl
        have hms := Lib.hid (fun (k : Nat) => show missN l ((k : Int) + 1) (j + 1) = missN l ((k : Int) + 1) j + (if distL l j = 0 ∨ (k : Int) + 1 < distL l j then 1 else 0) from rfl)
        obtain ⟨x, hx⟩ : ∃ x, distL l j = x := ⟨_, rfl⟩
        rw [hx] at hcl hms
        have hj0 : (0 : Int) ≤ (j : Int) := Int.natCast_nonneg _
        have hj1 : (j : Int) < (l.length : Int) := by omega
        have hjw : IntKind.i64.wrap ((j : Int) + 1) = (j : Int) + 1 := IntWalk.i64_in _ (by omega)
        clear hdc hx
        go_wp2_with fail
        go_loopw [24] (fun i wr => ∃ q : Nat, q ≤ 6 ∧ i = .int .i64 q ∧ OI g wr (.slice (some ⟨g, 0, none⟩) 6 6) (crvM l j q) ∧ RI (fun q => q = g) wr (.slice (some ⟨db, dof, none⟩) l.length dc) (distTo l l.length) ∧ Chg No w wr) (fun i _ => 6 - (intOf i).toNat)
        case atStart => exact ⟨0, by omega, rfl, ho, hrd, hch⟩
        case round =>
          clear ho hrd hch hcl
          obtain ⟨q, hq, rfl, ho, hrd, hch⟩ := hrel
          by_cases hq6 : q < 6
          · have hml := missN_le l ((q : Int) + 1) j
            have hat := crvM_at l j q q hq6
            rw [if_neg (Nat.lt_irrefl _)] at hat
            have hst := crvM_step l j q hq6
            have hke := crvM_keep l j q hq6
            have hm1 := hms.out q
            obtain ⟨M, hM⟩ : ∃ M, crvM l j q = M := ⟨_, rfl⟩
            have hMl : M.length = 6 := by rw [← hM, crvM_len]
            rw [hM] at ho hat hst hke
            obtain ⟨mm, hmm⟩ : ∃ mm, missN l ((q : Int) + 1) j = mm := ⟨_, rfl⟩
            rw [hmm] at hml hat hke hm1
            have hoc := ho.at.1 q (by omega)
            have hof := ho.at.2.1 q
            rw [hat] at hoc
            have HST := Lib.hid hst
            have HKE := Lib.hid hke
            have HM1 := Lib.hid hm1
            have hq0 : (0 : Int) ≤ (q : Int) := Int.natCast_nonneg _
            have hq1 : (q : Int) < (6 : Int) := by omega
            have hqw : IntKind.i64.wrap ((q : Int) + 1) = (q : Int) + 1 := IntWalk.i64_in _ (by omega)
            have hmw : IntKind.i64.wrap ((mm : Int) + 1) = (mm : Int) + 1 := IntWalk.i64_in _ (by omega)
            clear hM hmm hst hke hm1 hat hMl
            by_cases hx0 : x = 0
            · have hnew : crvM l j (q + 1) = M.set q ((mm : Int) + 1) := by rw [HST.out, HM1.out, if_pos (.inl hx0)]; push_cast; rfl
              have HN := Lib.hid hnew
              clear hnew
              go_wp2_with fail
              obtain ⟨o1, o2⟩ := ho.store q ((mm : Int) + 1)
              go_round
              case rel => exact ⟨q + 1, hq6, by go_num, by rw [HN.out]; exact o1, hrd.step o2 (fun q hq => hq), hch.step o2 (fun q hq hl => by omega)⟩
              case measure => simp [intOf]; omega
            · by_cases hxk : (q : Int) + 1 < x
              · have hnew : crvM l j (q + 1) = M.set q ((mm : Int) + 1) := by rw [HST.out, HM1.out, if_pos (.inr hxk)]; push_cast; rfl
                have HN := Lib.hid hnew
                clear hnew
                go_wp2_with fail
                obtain ⟨o1, o2⟩ := ho.store q ((mm : Int) + 1)
                go_round
                case rel => exact ⟨q + 1, hq6, by go_num, by rw [HN.out]; exact o1, hrd.step o2 (fun q hq => hq), hch.step o2 (fun q hq hl => by omega)⟩
                case measure => simp [intOf]; omega
              · have hnew : crvM l j (q + 1) = M := HKE.out (by rw [HM1.out, if_neg (fun e => e.elim hx0 hxk)]; rfl)
                have HN := Lib.hid hnew
                clear hnew
                go_wp2_with fail
                go_round
                case rel => exact ⟨q + 1, hq6, by go_num, by rw [HN.out]; exact ho, hrd, hch⟩
                case measure => simp [intOf]; omega
          · have hq6' : q = 6 := by omega
            subst hq6'
            rw [crvM_next] at ho
            go_wp2_with fail
            go_round
            case rel => exact ⟨j + 1, hlt, by go_num, ho, hrd, hch⟩
            case measure => simp [intOf]; omega
      · have hjl : j = l.length := by omega
        subst hjl
        rw [crvM_done] at ho
        go_wp2_with fail
        go_ret2
        exact ⟨_, _, rfl, rfl, by rw [← HR.out]; exact ho.weak (by omega), hch⟩
end Go.Proofs.Ytfdmghohmohmpaa

/- WindowSizes, vSum, what is drawn -/
namespace Go.Proofs.Ytfdmghohmohmpaa
open Go.RowKit

/-- the sizes of the windows that end at the first j places -/
def winsTo (l : List Int) (w : Nat) : Nat → List Int
  | 0 => []
  | j + 1 => winsTo l w j ++ [((diffL ((l.take (j + 1)).drop (j + 1 - w))).length : Int)]
theorem winsTo_len (l : List Int) (w j : Nat) : (winsTo l w j).length = j := by
  induction j with
  | zero => rfl
  | succ j ih => simp [winsTo, ih]
theorem winsTo_at (l : List Int) (w : Nat) : ∀ j i, i < j → (winsTo l w j).getD i 0 = ((diffL ((l.take (i + 1)).drop (i + 1 - w))).length : Int) := by
  intro j
  induction j with
  | zero => exact fun i hi => absurd hi (Nat.not_lt_zero _)
  | succ j ih =>
    intro i hi
    rw [winsTo, List.getD_eq_getElem?_getD]
    by_cases e : i < j
    · rw [List.getElem?_append_left (by rw [winsTo_len]; exact e), ← List.getD_eq_getElem?_getD]
      exact ih i e
    · have e : i = (winsTo l w j).length := by rw [winsTo_len]; omega
      rw [List.getElem?_append_right (by omega), e, Nat.sub_self, winsTo_len]
      rfl
/-- a window back to the last use holds what the distance counts -/
theorem win_dist {l : List Int} {i p : Nat} (hi : i < l.length) (hp : lastP l (l.getD i 0) i = (p : Int)) : distL l i = ((diffL ((l.take (i + 1)).drop (i + 1 - (i - p)))).length : Int) := by
  obtain ⟨h1, h2⟩ := (dist_last hi).2 p hp
  obtain ⟨_, he, _⟩ := lastP_hit l _ i p hp
  rw [h2, show i + 1 - (i - p) = p + 1 by omega]
  have e : diffL ((l.take i).drop p) = diffL ((l.take (i + 1)).drop (p + 1)) := by
    refine up_ext (diffL_up _) (diffL_up _) (fun y => ?_)
    rw [diffL_mem, diffL_mem]
    have hpl : p < (l.take i).length := by rw [List.length_take]; omega
    have e1 : (l.take i).drop p = l.getD i 0 :: (l.take i).drop (p + 1) := by
      rw [List.drop_eq_getElem_cons hpl]
      congr 1
      rw [List.getElem_take, ← he, List.getD_eq_getElem?_getD, List.getElem?_eq_getElem (by omega : p < l.length)]
      rfl
    have e2 : (l.take (i + 1)).drop (p + 1) = (l.take i).drop (p + 1) ++ [l.getD i 0] := by
      rw [take_snoc l i hi, List.drop_append_of_le_length (by rw [List.length_take]; omega), List.getD_eq_getElem?_getD, List.getElem?_eq_getElem hi]
      rfl
    rw [e1, e2, List.mem_cons, List.mem_append, List.mem_singleton]
    exact ⟨fun h => h.elim .inr .inl, fun h => h.elim .inr .inl⟩
  rw [e]

set_option maxRecDepth 100000 in
set_option maxHeartbeats 2000000 in
theorem windowSizes_any (A : Nat → Prop) (n : Int) (m : Nat) (v : Value) (l : List Int) (w : World) (h : RI A w v l) (hr : reqB n l = true) (hm : 1 ≤ m ∧ m ≤ 60) :
    Calls Try.prog 16 #[.int .i64 n, v, .int .i64 (m : Int)] w (Ret2 fun v0 v1 w' => v1 = .bool true ∧ OI w.heap.size w' v0 (winsTo l m l.length) ∧ Chg No w w') := by
  have q1 := Lib.hid (IsRequests_any A _ l n w h)
  rw [show (inB n 1 8 && decide (l.length ≤ 60) && belowB n l) = reqB n l from rfl, hr] at q1
  obtain ⟨hlen, _, _⟩ := reqB_len hr
  have hin : Hid (inB (m : Int) 1 60 = true) := Lib.hid (inB_iff.2 (by omega))
  clear hr
  obtain ⟨a, cap, rfl, _⟩ := id h
  go_enter Try.func16, Try.ntmps16
  go_wp2_with fail
  refine (q1.out).mono ?_
  rintro e w1 ⟨_, rfl, rfl, k1⟩
  go_wp2_with fail
  refine (within_any _ _ _ _).mono ?_
  rintro e w2 ⟨rfl, rfl⟩
  rw [hin.out]
  have ho1 : OI w.heap.size (w1.alloc (.cells #[] 3)) (.slice (some ⟨w1.heap.size, 0, none⟩) 0 0) [] := OI.zero k1.size
  have hch1 := k1.alloc (.cells #[] 3)
  clear q1 hin
  go_wp2_with fail
  go_loopw [8, 22] (fun o i wr => ∃ j : Nat, j ≤ l.length ∧ i = .int .i64 j ∧ OI w.heap.size wr o (winsTo l m j) ∧ Chg No w wr) (fun _ i _ => l.length - (intOf i).toNat)
  case atStart => exact ⟨0, Nat.zero_le _, rfl, ho1, hch1⟩
  case round =>
    clear ho1 hch1
    obtain ⟨j, hj, rfl, ho, hch⟩ := hrel
    have hsz := hch.size
    by_cases hlt : j < l.length
    · have hw1 : IntKind.i64.wrap ((j : Int) - (m : Int)) = (j : Int) - (m : Int) := IntWalk.i64_in _ (by omega)
      have hw2 : IntKind.i64.wrap ((j : Int) - (m : Int) + 1) = (j : Int) - (m : Int) + 1 := IntWalk.i64_in _ (by omega)
      have hmx : max 0 ((j : Int) - (m : Int) + 1) = ((j + 1 - m : Nat) : Int) := by omega
      have hw3 : IntKind.i64.wrap ((j : Int) + 1) = ((j + 1 : Nat) : Int) := (IntWalk.i64_in _ (by omega)).trans (by omega)
      obtain ⟨lo, hlo⟩ : ∃ lo, j + 1 - m = lo := ⟨_, rfl⟩
      obtain ⟨hi, hhi⟩ : ∃ hi, j + 1 = hi := ⟨_, rfl⟩
      obtain ⟨xs, hxs, hxr⟩ := (h.keep hch).mid lo hi _ _ rfl rfl (by omega) (by omega)
      have hdt : winsTo l m (j + 1) = winsTo l m j ++ [((diffL ((l.take hi).drop lo)).length : Int)] := by rw [winsTo, hlo, hhi]
      rw [hlo] at hmx
      rw [hhi] at hw3
      obtain ⟨dl, hdl2⟩ : ∃ dl, diffL ((l.take hi).drop lo) = dl := ⟨_, rfl⟩
      rw [hdl2] at hdt
      have HDT := Lib.hid hdt
      have q2 := Lib.hid (rising_any A xs _ wr hxr)
      rw [hdl2] at q2
      have hj0 : (0 : Int) ≤ (j : Int) := Int.natCast_nonneg _
      have hj1 : (j : Int) < (l.length : Int) := by omega
      have hdl : (winsTo l m j).length < 17592186044416 := by rw [winsTo_len]; omega
      obtain ⟨oa, ocap, rfl, _⟩ := id ho.view
      clear hlo hdl2 hdt hxr
      go_wp2_with fail
      refine (q2.out).mono ?_
      rintro e w3 ⟨rv, rfl, oR, k3⟩
      obtain ⟨ra, rc, rfl, _⟩ := oR.view
      have ho3 := ho.keep k3
      have hch3 := hch.keep k3
      have hsz3 := hch3.size
      go_wp2_with (at_builtin; refine wapp1 rfl (.tmp 25) (.tmp 37) rfl ho3 rfl rfl hdl (by omega) ?_)
      intro v4 w4 h4 k4 f4
      have hown := fun q hq => (ho3.lt q hq).1
      have hch4 := hch3.step k4 (fun q hq hl => by have := hown q hq; omega)
      obtain ⟨ob, obc, rfl, _⟩ := h4.view
      rw [← HDT.out] at h4 ⊢
      have hjw : IntKind.i64.wrap ((j : Int) + 1) = (j : Int) + 1 := IntWalk.i64_in _ (by omega)
      clear hw3
      go_wp2_with fail
      go_round
      case rel => exact ⟨j + 1, hlt, by go_num, h4, hch4⟩
      case measure => simp [intOf]; omega
    · have hjl : j = l.length := by omega
      subst hjl
      go_wp2_with fail
      go_ret2
      exact ⟨_, _, rfl, rfl, ho, hch⟩

def sumL (l : List Int) : Int := l.foldl (· + ·) 0
theorem sumL_snoc (l : List Int) (j : Nat) (hj : j < l.length) : sumL (l.take (j + 1)) = sumL (l.take j) + l.getD j 0 := by
  rw [take_snoc l j hj, sumL, List.foldl_append, List.getD_eq_getElem?_getD, List.getElem?_eq_getElem hj]
  rfl
set_option maxRecDepth 100000 in
theorem vSum_any (A : Nat → Prop) (v : Value) (l : List Int) (w : World) (h : RI A w v l) (hb : ∀ j, j ≤ l.length → -1000000000 ≤ sumL (l.take j) ∧ sumL (l.take j) ≤ 1000000000) :
    Calls Try.prog 21 #[v] w fun e w' => e = .returned (.int .i64 (sumL l)) ∧ w = w' := by
  obtain ⟨a, cap, rfl, hcap, hmax, hlen, _, hc⟩ := h
  have HB := Lib.hid hb
  clear hb
  go_enter Try.func21, Try.ntmps21
  go_wp2
  go_loop [3, 4] (fun s i => ∃ k : Nat, k ≤ l.length ∧ i = .int .i64 k ∧ s = .int .i64 (sumL (l.take k))) (fun _ i => l.length - (intOf i).toNat)
  case atStart => exact ⟨0, Nat.zero_le _, rfl, rfl⟩
  case round =>
    obtain ⟨k, hk, rfl, rfl⟩ := hrel
    by_cases hlt : k < l.length
    · obtain ⟨b, off, rfl, _, _, hcell⟩ := hc (by intro e; simp [e] at hlt)
      have hck := hcell k hlt
      have hs := sumL_snoc l k hlt
      have hb1 := HB.out (k + 1) hlt
      obtain ⟨x, hx⟩ : ∃ x, l.getD k 0 = x := ⟨_, rfl⟩
      rw [hx] at hck hs
      obtain ⟨s, hss⟩ : ∃ s, sumL (l.take k) = s := ⟨_, rfl⟩
      rw [hss] at hs ⊢
      have hw : IntKind.i64.wrap (s + x) = s + x := IntWalk.i64_in _ (by omega)
      have hkw : IntKind.i64.wrap ((k : Int) + 1) = (k : Int) + 1 := IntWalk.i64_in _ (by omega)
      have hk0 : (0 : Int) ≤ (k : Int) := Int.natCast_nonneg _
      have hk1 : (k : Int) < (l.length : Int) := by omega
      have HS := Lib.hid hs
      clear hcell hc hx hss hs hb1
      go_wp2
      go_round
      case rel => exact ⟨k + 1, hlt, by go_num, by rw [HS.out]⟩
      case measure => simp [intOf]; omega
    · have hkl : k = l.length := by omega
      subst hkl
      clear hc
      go_wp2
      go_ret
      exact ⟨rfl, rfl⟩

set_option maxRecDepth 100000 in
theorem DrawReqs_any (v : Value) (n : Nat) (w : World) (h : Code w v n) (hn : n ≤ 70001) :
    Calls Try.prog 22 #[v] w fun e w' => ∃ (m : Int) (rv : Value) (l : List Int), e = .returned (.tuple #[.int .i64 m, rv]) ∧ OI w.heap.size w' rv l ∧ l.length ≤ 62 ∧ Chg No w w' := by
  obtain ⟨a, cp, rfl⟩ := h.shape
  have k0 := (Chg.refl No w).alloc (.cells #[.slice a n cp, .int .i64 0, .int .u64 0] 56)
  have hc := Cur.new h (by omega) 56
  have q1 := Lib.hid (items_any _ _ _ _ hc (by omega))
  have hz := Lib.hid (World.size_alloc w (.cells #[.slice a n cp, .int .i64 0, .int .u64 0] 56))
  clear h hc
  go_enter Try.func22, Try.ntmps22
  go_wp2_with (first
    | (go_at_call 42; refine (q1.out).mono ?_; rintro e w1 ⟨m, rfl, hm0, hm1, hc1, hk1⟩; have hs1 := hk1.size; have hz1 := hz.out)
    | (go_at_call 43; refine (requests_any _ _ _ _ _ hc1 (by omega) (by omega)).mono ?_; rintro e w2 ⟨rv, l, rfl, ho, hl, hc2, hk2⟩))
  refine bodyPost_ret (v := .tuple #[.int .i64 m, rv]) (by simp [results, Try.results22, go_sem]) rfl ?_
  exact ⟨m, rv, l, rfl, ho.weak (by omega), hl, k0.step (hk1.trans hk2) (fun q hq hlt => by omega)⟩
set_option maxRecDepth 100000 in
theorem DrawStack_any (v : Value) (n : Nat) (w : World) (h : Code w v n) (hn : n ≤ 70001) :
    Calls Try.prog 5 #[v] w fun e w' => ∃ (m : Int) (rv : Value) (l : List Int), e = .returned (.tuple #[.int .i64 m, rv]) ∧ OI w.heap.size w' rv l ∧ l.length ≤ 62 ∧ Chg No w w' := by
  obtain ⟨a, cp, rfl⟩ := h.shape
  go_enter Try.func5, Try.ntmps5
  go_wp2_with fail
  refine (DrawReqs_any _ n w h hn).mono ?_
  rintro e w1 ⟨m, rv, l, rfl, ho, hl, k1⟩
  go_wp2_with fail
  refine bodyPost_ret (v := .tuple #[.int .i64 m, rv]) (by simp [results, Try.results5, go_sem]) rfl ?_
  exact ⟨m, rv, l, rfl, ho, hl, k1⟩
end Go.Proofs.Ytfdmghohmohmpaa

/- stack distances: what the law rests on, plain -/
namespace Go.Proofs.Ytfdmghohmohmpaa

theorem bySize_crv (l : List Int) (k : Nat) : bySizeTo 1 l k = crvTo l k := by
  induction k with
  | zero => rfl
  | succ k ih =>
    rw [bySizeTo, crvTo, ih]
    have : (places (newC 1 ((k : Int) + 1)) l).length = missN l ((k : Int) + 1) l.length := lru_places (by omega) l l.length
    rw [this]
theorem crvTo_at (l : List Int) : ∀ j i, i < j → (crvTo l j).getD i 0 = (missN l ((i : Int) + 1) l.length : Int) := by
  intro j
  induction j with
  | zero => exact fun i hi => absurd hi (Nat.not_lt_zero _)
  | succ j ih =>
    intro i hi
    rw [crvTo, List.getD_eq_getElem?_getD]
    by_cases e : i < j
    · rw [List.getElem?_append_left (by rw [crvTo_len]; exact e), ← List.getD_eq_getElem?_getD]
      exact ih i e
    · have e : i = (crvTo l j).length := by rw [crvTo_len]; omega
      rw [List.getElem?_append_right (by omega), e, Nat.sub_self, crvTo_len]
      rfl
theorem foldl_add (l : List Int) : ∀ s : Int, l.foldl (· + ·) s = s + l.foldl (· + ·) 0 := by
  induction l with
  | nil => intro s; simp
  | cons a l ih => intro s; rw [List.foldl_cons, List.foldl_cons, ih (s + a), ih (0 + a)]; omega
theorem sumL_cons (a : Int) (l : List Int) : sumL (a :: l) = a + sumL l := by
  unfold sumL
  rw [List.foldl_cons, foldl_add]
  omega
theorem sumL_set (l : List Int) : ∀ (q : Nat) (x : Int), q < l.length → sumL (l.set q x) = sumL l - l.getD q 0 + x := by
  induction l with
  | nil => intro q x h; cases h
  | cons a l ih =>
    intro q x h
    cases q with
    | zero =>
      show sumL (x :: l) = sumL (a :: l) - a + x
      rw [sumL_cons, sumL_cons]
      omega
    | succ q =>
      show sumL (a :: l.set q x) = sumL (a :: l) - l.getD q 0 + x
      rw [sumL_cons, sumL_cons, ih q x (by simpa using h)]
      omega
theorem sumL_zero (n : Nat) : sumL (List.replicate n 0) = 0 := by
  induction n with
  | zero => rfl
  | succ n ih => rw [List.replicate_succ, sumL_cons, ih]; rfl
theorem sum_counts (n : Nat) (d : List Int) : (∀ x ∈ d, 0 ≤ x ∧ x < (n : Int)) → sumL (cntL n d) = (d.length : Int) := by
  induction d using snocRec with
  | nil => intro _; exact sumL_zero n
  | snoc d x ih =>
    intro h
    have h1 := ih (fun y hy => h y (List.mem_append_left _ hy))
    have h2 := h x (by simp)
    have e : cntL n (d ++ [x]) = (cntL n d).set x.toNat ((cntL n d).getD x.toNat 0 + 1) := by rw [cntL, List.foldl_append]; rfl
    rw [e, sumL_set _ _ _ (by rw [cntL_len]; omega), h1, List.length_append]
    show _ = ((d.length + 1 : Nat) : Int)
    omega
theorem sum_bound {B : Int} (l : List Int) (h : ∀ i, 0 ≤ l.getD i 0 ∧ l.getD i 0 ≤ B) (_hB : 0 ≤ B) : ∀ j, j ≤ l.length → 0 ≤ sumL (l.take j) ∧ sumL (l.take j) ≤ B * (j : Int) := by
  intro j
  induction j with
  | zero => intro _; exact ⟨Int.le_refl _, by simp [sumL]⟩
  | succ j ih =>
    intro hj
    have h1 := ih (by omega)
    have h2 := h j
    rw [sumL_snoc l j hj]
    have e : B * ((j + 1 : Nat) : Int) = B * (j : Int) + B := by
      rw [show ((j + 1 : Nat) : Int) = (j : Int) + 1 by omega, Int.mul_add, Int.mul_one]
    omega
end Go.Proofs.Ytfdmghohmohmpaa
