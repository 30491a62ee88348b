import Derived.Test.YtodnkkmjjlfoiaaDl
import Derived.Test.YtodnkkmjjlfoiaaBu
import Derived.Test.YtodnkkmjjlfoiaaCz
/- a Tournament of one Player who is asked cruelly alone (plain) -/
namespace Go.Proofs.Ytodnkkmjjlfoiaa
open Go.RowKit

theorem placesTo_app (c : Ca) (l m : List Int) : ∀ k, k ≤ l.length → placesTo c (l ++ m) k = placesTo c l k := by
  intro k
  induction k with
  | zero => intro _; rfl
  | succ k ih =>
    intro hk
    unfold placesTo
    rw [ih (by omega), List.take_append_of_le_length (by omega)]
    have e : (l ++ m).getD k 0 = l.getD k 0 := by
      rw [List.getD_eq_getElem?_getD, List.getD_eq_getElem?_getD, List.getElem?_append_left (by omega)]
    rw [e]
theorem cruel_places (c : Ca) : ∀ n, (places c (cruelI c n)).length = n := by
  intro n
  induction n with
  | zero => rfl
  | succ n ih =>
    have hl := cruelI_len c n
    have hm := (missOf_spec (runC c (cruelI c n)).pages).1
    unfold places at ih ⊢
    rw [cruelI_len] at ih ⊢
    show (placesTo c (cruelI c n ++ [(missOf (runC c (cruelI c n)).pages : Int)]) (n + 1)).length = n + 1
    unfold placesTo
    have e1 : (cruelI c n ++ [(missOf (runC c (cruelI c n)).pages : Int)]).take n = cruelI c n := by
      rw [List.take_append_of_le_length (by omega)]; exact List.take_of_length_le (by omega)
    have e2 : (cruelI c n ++ [(missOf (runC c (cruelI c n)).pages : Int)]).getD n 0 = (missOf (runC c (cruelI c n)).pages : Int) := by
      rw [List.getD_eq_getElem?_getD, List.getElem?_append_right (by omega), hl]; simp
    have e3 : hasB (runC c (cruelI c n)).pages (missOf (runC c (cruelI c n)).pages : Int) = false := by
      unfold hasB; simpa using hm
    rw [e1, e2, e3, placesTo_app _ _ _ _ (by omega)]
    simp only [Bool.false_eq_true, if_false, List.length_append, List.length_singleton, ih]
theorem cruel_small {c : Ca} (h : Ok c) (n : Nat) : ∀ x ∈ cruelI c n, 0 ≤ x ∧ x ≤ c.size := by
  induction n with
  | zero => intro x hx; simp [cruelI] at hx
  | succ n ih =>
    intro x hx
    simp only [cruelI] at hx
    rcases List.mem_append.1 hx with hx | hx
    · exact ih x hx
    · rw [List.mem_singleton.1 hx]
      have h1 := (ok_run h (cruelI c n)).len
      rw [(runP_const c (cruelI c n)).2] at h1
      have h2 := missOf_le (runC c (cruelI c n)).pages
      omega
/-- a Tournament that is begun; one who joins it; behind some cruel requests -/
def bareT (it : Int) : To := ⟨it, [], []⟩
def oneT (it p k : Int) : To := ⟨it, [servedP 0 p k []], []⟩
noncomputable def cruT (it p k : Int) (n : Nat) : To := ⟨it, [servedP 0 p k (cruelI (newC p k) n)], cruelI (newC p k) n⟩
theorem bare_ok {it : Int} (h : 1 ≤ it ∧ it ≤ 8) : tourB (bareT it) = true := by
  unfold bareT tourB reqB belowB
  simp [inB_iff, h]
theorem bare_join {it p k : Int} (h : 1 ≤ it ∧ it ≤ 8) (hp : 1 ≤ p ∧ p ≤ 7) (hk : 1 ≤ k ∧ k ≤ 6) : okS (bareT it) 1 p k = true ∧ stS (bareT it) 1 p k = oneT it p k := by
  have h1 : okS (bareT it) 1 p k = true := by
    unfold okS okStep okJoin
    rw [bare_ok h]
    simp [inB_iff, hp, hk, bareT]
  refine ⟨h1, ?_⟩
  unfold stS
  rw [if_pos h1]
  rfl
theorem one_ok {it p k : Int} (h : 1 ≤ it ∧ it ≤ 8) (hp : 1 ≤ p ∧ p ≤ 7) (hk : 1 ≤ k ∧ k ≤ 6) : tourB (oneT it p k) = true := by
  have h1 := (bare_join h hp hk)
  have h2 := tour_step (bare_ok h) 1 p k (by have := h1.1; unfold okS at this; simp only [Bool.and_eq_true] at this; exact this.2)
  have e : stepT (bareT it) 1 p k = oneT it p k := rfl
  rw [← e]; exact h2
theorem one_cruel {it p k m : Int} (h : 1 ≤ it ∧ it ≤ 8) (hp : 1 ≤ p ∧ p ≤ 7) (hk : 1 ≤ k ∧ k ≤ 6) (hi : k < it) (hm : 1 ≤ m ∧ m ≤ 60) :
    okS (oneT it p k) 6 0 m = true ∧ stS (oneT it p k) 6 0 m = cruT it p k m.toNat := by
  have e0 : ((oneT it p k).ps.getD (0 : Int).toNat dPl).ca = newC p k := rfl
  have h1 : okStep (oneT it p k) 6 0 m = true := by
    unfold okStep
    rw [if_neg (by omega), if_pos rfl, e0]
    unfold hasP
    simp only [Bool.and_eq_true, inB_iff, decide_eq_true_eq]
    refine ⟨⟨Int.le_refl _, ?_⟩, ?_, ?_⟩
    · show (0 : Int) ≤ ((1 : Nat) : Int) - 1; omega
    · exact hi
    · show 1 ≤ m ∧ m ≤ 60 - ((0 : Nat) : Int); omega
  have h2 : okS (oneT it p k) 6 0 m = true := by
    unfold okS
    rw [one_ok h hp hk, h1]; rfl
  refine ⟨h2, ?_⟩
  unfold stS
  rw [if_pos h2]
  unfold stepT
  rw [if_neg (by omega), if_pos rfl, e0]
  rfl
theorem cru_ok {it p k : Int} {m : Int} (h : 1 ≤ it ∧ it ≤ 8) (hp : 1 ≤ p ∧ p ≤ 7) (hk : 1 ≤ k ∧ k ≤ 6) (hi : k < it) (hm : 1 ≤ m ∧ m ≤ 60) : tourB (cruT it p k m.toNat) = true := by
  obtain ⟨h1, h2⟩ := one_cruel h hp hk hi hm
  have h3 : okStep (oneT it p k) 6 0 m = true := by unfold okS at h1; simp only [Bool.and_eq_true] at h1; exact h1.2
  have h4 := tour_step (one_ok h hp hk) 6 0 m h3
  have e : stS (oneT it p k) 6 0 m = stepT (oneT it p k) 6 0 m := by unfold stS; rw [if_pos h1]
  rw [← h2, e]; exact h4
theorem cru_faults {it p k : Int} (m : Nat) : ((cruT it p k m).ps.getD 0 dPl).fa = (m : Int) := by
  show ((places (newC p k) (cruelI (newC p k) m)).length : Int) = _
  rw [cruel_places]
theorem cru_fewest {it p k m : Int} (h : 1 ≤ it ∧ it ≤ 8) (hp : 1 ≤ p ∧ p ≤ 7) (hk : 1 ≤ k ∧ k ≤ 6) (hi : k < it) (hm : 1 ≤ m ∧ m ≤ 60) :
    0 ≤ fewT (cruT it p k m.toNat) 0 ∧ fewT (cruT it p k m.toNat) 0 ≤ ((k.toNat + (m.toNat + k.toNat - 1) / k.toNat : Nat) : Int) := by
  obtain ⟨_, _, h3, _⟩ := tour_facts (cru_ok h hp hk hi hm) (i := 0) (by show 0 < 1; omega)
  obtain ⟨h4, h5⟩ := fewN_ok h3
  have e1 : ((cruT it p k m.toNat).ps.getD 0 dPl).ca.size = k := by
    show (runC (newC p k) (cruelI (newC p k) m.toNat)).size = k
    rw [(runP_const _ _).2]; rfl
  have e2 : partL (cruT it p k m.toNat) 0 = cruelI (newC p k) m.toNat := rfl
  refine ⟨h4, ?_⟩
  show fewN _ _ _ ≤ _
  rw [e1, e2] at h4 h5 ⊢
  obtain ⟨f, h6, h7⟩ := sim_bound k.toNat (by omega) (upTo (k.toNat + 1)) (by unfold upTo; simp) (cruelI (newC p k) m.toNat).length (cruelI (newC p k) m.toNat) (Nat.le_refl _) (fun x hx => by
    have := cruel_small (ok_new hp hk) m.toNat x hx
    have e : (newC p k).size = k := rfl
    rw [e] at this
    unfold upTo
    refine List.mem_map.2 ⟨x.toNat, List.mem_range.2 (by omega), by omega⟩) [] List.nodup_nil (fun x hx => absurd hx List.not_mem_nil) (by simp)
  rw [cruelI_len, List.length_nil] at h7
  have h8 := h5.2 f (by
    have e : (fun x : Int => x ∈ ([] : List Int)) = fun _ => False := funext fun x => propext ⟨fun h => List.not_mem_nil h, False.elim⟩
    rw [← e]; exact h6)
  omega
theorem cru_few {it p k m : Int} (h : 1 ≤ it ∧ it ≤ 8) (hp : 1 ≤ p ∧ p ≤ 7) (hk : 1 ≤ k ∧ k ≤ 6) (hi : k < it) (hm : 1 ≤ m ∧ m ≤ 60) :
    0 ≤ fewT (cruT it p k m.toNat) 0 ∧ fewT (cruT it p k m.toNat) 0 ≤ k + (m + k - 1) / k := by
  obtain ⟨h1, h2⟩ := cru_fewest h hp hk hi hm
  refine ⟨h1, Int.le_trans h2 ?_⟩
  have e : ((m.toNat + k.toNat - 1 : Nat) : Int) = m + k - 1 := by omega
  have e2 : ((k.toNat : Nat) : Int) = k := by omega
  rw [Int.natCast_add, Int.natCast_ediv, e, e2]
  exact Int.le_refl _
theorem cru_acc {it p k m : Int} (h : 1 ≤ it ∧ it ≤ 8) (hp : 1 ≤ p ∧ p ≤ 7) (hk : 1 ≤ k ∧ k ≤ 6) (hi : k < it) (hm : 1 ≤ m ∧ m ≤ 60) :
    tourB (cruT it p k m.toNat) = true ∧ accN (cruT it p k m.toNat) = 1 ∧ accL (cruT it p k m.toNat) 1 = [m, fewT (cruT it p k m.toNat) 0] := by
  have h1 := cru_ok h hp hk hi hm
  refine ⟨h1, ?_, ?_⟩
  · unfold accN; rw [if_pos h1]; rfl
  · have h2 := cru_faults (it := it) (p := p) (k := k) m.toNat
    unfold accL
    simp only [List.range_succ, List.range_zero, List.nil_append, List.flatMap_cons, List.flatMap_nil, List.append_nil]
    rw [h2]
    congr 1
    omega
theorem bare_rt (it : Int) (w : World) : RT No w (.agg #[.int .i64 it, .slice none 0 0, .slice none 0 0]) (bareT it) :=
  ⟨_, _, rfl, ⟨none, 0, rfl, Nat.le_refl _, by omega, by simp [bareT], fun _ => undef, fun _ => undef, fun i h => absurd h (Nat.not_lt_zero _), fun h => absurd rfl h⟩, RI.nil _ _⟩
end Go.Proofs.Ytodnkkmjjlfoiaa
