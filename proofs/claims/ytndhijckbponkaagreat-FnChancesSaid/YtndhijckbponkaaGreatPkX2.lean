import Derived.Test.YtndhijckbponkaaGreatBase
/-
  Plain Lean: lists of numbers, and caches as step machines. No program in sight.
-/
namespace Go.Proofs.YtndhijckbponkaaGreat

def inB (x a b : Int) : Bool := decide (a ≤ x) && decide (x ≤ b)
theorem inB_iff {x a b : Int} : inB x a b = true ↔ a ≤ x ∧ x ≤ b := by simp [inB]
theorem take_snoc (l : List Int) (k : Nat) (h : k < l.length) : l.take (k + 1) = l.take k ++ [l[k]] := by
  rw [List.take_succ_eq_append_getElem h]
def belowB (n : Int) (l : List Int) : Bool := l.all fun a => inB a 0 (n - 1)
theorem belowB_snoc (n : Int) (l : List Int) (k : Nat) (h : k < l.length) : belowB n (l.take (k + 1)) = (belowB n (l.take k) && inB l[k] 0 (n - 1)) := by
  unfold belowB; rw [take_snoc l k h, List.all_append]; simp only [List.all_cons, List.all_nil, Bool.and_true]
theorem belowB_stop (n : Int) (l : List Int) (k : Nat) (h : k < l.length) (hk : inB l[k] 0 (n - 1) = false) : belowB n l = false := by
  rw [belowB, List.all_eq_false]
  exact ⟨l[k], List.getElem_mem h, by simp [hk]⟩

/-- the first place at which p holds, -1 if there is none -/
def idxF (l : List Int) (p : Int → Bool) : Int := if l.any p then (l.findIdx p : Int) else -1
theorem any_snoc (l : List Int) (p : Int → Bool) (k : Nat) (h : k < l.length) : (l.take (k + 1)).any p = ((l.take k).any p || p l[k]) := by
  rw [take_snoc l k h, List.any_append]; simp only [List.any_cons, List.any_nil, Bool.or_false]
theorem idxF_hit (l : List Int) (p : Int → Bool) (k : Nat) (h : k < l.length) (hk : p l[k] = true) (hn : (l.take k).any p = false) : idxF l p = k := by
  have ha : l.any p = true := List.any_eq_true.2 ⟨l[k], List.getElem_mem h, hk⟩
  rw [idxF, if_pos ha]
  congr 1
  rw [List.findIdx_eq h]
  refine ⟨hk, fun j hj => ?_⟩
  have := List.any_eq_false.1 hn l[j] (List.mem_take_iff_getElem.2 ⟨j, by omega, rfl⟩)
  simpa using this
theorem idxF_none (l : List Int) (p : Int → Bool) (h : l.any p = false) : idxF l p = -1 := by rw [idxF, h]; rfl
theorem idxF_ge (l : List Int) (p : Int → Bool) : decide (0 ≤ idxF l p) = l.any p := by
  cases h : l.any p
  · rw [idxF_none l p h]; rfl
  · rw [idxF, if_pos h]; simp
theorem getD_mem {l : List Int} {i : Nat} (h : i < l.length) : l.getD i 0 ∈ l := by
  rw [List.getD_eq_getElem?_getD, List.getElem?_eq_getElem h]; exact List.getElem_mem h

end Go.Proofs.YtndhijckbponkaaGreat

namespace Go.Proofs.YtndhijckbponkaaGreat
open Go.RowKit

set_option maxHeartbeats 400000 in
theorem l1In_any (x a b : Int) (w : World) :
    Calls Tryz.prog 97 #[.int .i64 x, .int .i64 a, .int .i64 b] w fun e w' => e = .returned (.bool (inB x a b)) ∧ w = w' := by
  by_cases h1 : a ≤ x <;> by_cases h2 : x ≤ b
  all_goals
    have H : Hid (inB x a b = (decide (a ≤ x) && decide (x ≤ b))) := rfl
    go_enter Tryz.func97, Tryz.ntmps97
    go_wp2
    go_ret
    exact ⟨ret_bool (by rw [H.out]; simp [h1, h2]), rfl⟩

set_option maxHeartbeats 400000 in
theorem l1Own_any (A : Nat → Prop) (v : Value) (l : List Int) (w : World) (h : RI A w v l) :
    Calls Tryz.prog 86 #[v] w (Ret fun v' w' => OI w.heap.size w' v' l ∧ Chg No w w') := by
  go_enter Tryz.func86, Tryz.ntmps86
  have hL := h.len
  go_wp2_with (at_builtin; refine wapp rfl (.tmp 3) (.tmp 4) rfl (OI.zero (Nat.le_refl w.heap.size)) ((h.weak (fun _ hk _ => hk.elim)).keep ((Chg.refl No w).alloc _)) rfl rfl (by simpa using hL) (by simp) ?_; intro v1 w1 h1 h2 h3)
  go_ret
  exact ⟨_, rfl, by simpa using h1, ((Chg.refl No w).alloc _).own h2 (OI.zero (Nat.le_refl _)) (Nat.le_refl _)⟩

set_option maxHeartbeats 400000 in
theorem l4With_any (A : Nat → Prop) (v : Value) (l : List Int) (i : Nat) (x : Int) (w : World) (h : RI A w v l) (hi : i < l.length) :
    Calls Tryz.prog 84 #[v, .int .i64 i, .int .i64 x] w (Ret fun v' w' => OI w.heap.size w' v' (l.set i x) ∧ Chg No w w') := by
  go_enter Tryz.func84, Tryz.ntmps84
  go_wp2_with fail
  refine (l1Own_any A v l w h).mono ?_
  rintro e w1 ⟨v1, rfl, h1, h2⟩
  obtain ⟨a, cap, rfl, hcap, hmax, hv⟩ := h1.view
  obtain ⟨g, rfl, hg1, hg2, hcell, hfr⟩ := hv (by omega)
  have hc := hcell i hi
  have hf := hfr i
  obtain ⟨h3, h4⟩ := h1.store i x
  go_wp2
  go_ret
  exact ⟨_, rfl, h3, h2.step h4 (fun k hk hl => by omega)⟩

set_option maxHeartbeats 400000 in
theorem l1Least_any (a b : Int) (w : World) :
    Calls Tryz.prog 121 #[.int .i64 a, .int .i64 b] w fun e w' => e = .returned (.int .i64 (min a b)) ∧ w = w' := by
  by_cases h : a < b
  all_goals
    go_enter Tryz.func121, Tryz.ntmps121
    go_wp2
    go_ret
    exact ⟨ret_int (by omega), rfl⟩
end Go.Proofs.YtndhijckbponkaaGreat

namespace Go.Proofs.YtndhijckbponkaaGreat
open Go.RowKit

set_option maxHeartbeats 400000 in
theorem within_any (x a b : Int) (w : World) :
    Calls Tryz.prog 57 #[.int .i64 x, .int .i64 a, .int .i64 b] w fun e w' => e = .returned (.bool (inB x a b)) ∧ w = w' := by
  by_cases h1 : a ≤ x <;> by_cases h2 : x ≤ b
  all_goals
    have H : Hid (inB x a b = (decide (a ≤ x) && decide (x ≤ b))) := rfl
    go_enter Tryz.func57, Tryz.ntmps57
    go_wp2
    go_ret
    exact ⟨ret_bool (by rw [H.out]; simp [h1, h2]), rfl⟩

set_option maxRecDepth 100000 in
set_option maxHeartbeats 400000 in
theorem IndexFunc_any (A : Nat → Prop) (v : Value) (l : List Int) (w : World) (h : RI A w v l) (f : FuncId) (c0 : Value) (p : Int → Bool)
    (hcf : ∀ x (w : World), (callFunc f #[.int .i64 x, c0]).run Tryz.prog w = .ok (.enter f #[.int .i64 x, c0]) w)
    (hp : ∀ x, x ∈ l → Calls Tryz.prog f #[.int .i64 x, c0] w fun e w' => e = .returned (.bool (p x)) ∧ w = w') :
    Calls Tryz.prog 147 #[v, .func (.func f) #[] #[c0]] w fun e w' => e = .returned (.int .i64 (idxF l p)) ∧ w = w' := by
  obtain ⟨a, cap, rfl, hcap, hmax, hlen, _, hc⟩ := h
  have HP := Lib.hid hp
  clear hp
  go_enter Tryz.func147, Tryz.ntmps147
  go_wp2
  go_loop [4, 8] (fun r i => ∃ k : Nat, k ≤ l.length ∧ i = .int .i64 k ∧ r = .int .i64 0 ∧ (l.take k).any p = false) (fun _ i => l.length - (intOf i).toNat)
  case atStart => exact ⟨0, Nat.zero_le _, rfl, rfl, rfl⟩
  case round =>
    obtain ⟨k, hk, rfl, rfl, hh⟩ := hrel
    have H := Lib.hid hh
    clear hh
    by_cases hlt : k < l.length
    · obtain ⟨b, off, rfl, _, _, hcell⟩ := hc (by intro e; simp [e] at hlt)
      have hck := hcell k hlt
      have hs := Lib.hid (any_snoc l p k hlt)
      have ht := Lib.hid (idxF_hit l p k hlt)
      have hm : l[k] ∈ l := List.getElem_mem hlt
      go_wp2_with fail
      refine (HP.out _ hm).mono ?_
      rintro e w' ⟨rfl, rfl⟩
      go_wp2
      · go_ret
        have h : p l[k] = true := by assumption
        exact ⟨ret_int (ht.out h H.out).symm, rfl⟩
      · have h : p l[k] = false := by assumption
        go_round
        case rel => exact ⟨k + 1, by omega, by go_num, rfl, by rw [hs.out, H.out, h]; rfl⟩
        case measure => simp [intOf]; omega
    · have hkl : k = l.length := by omega
      go_wp2
      go_ret
      subst hkl
      exact ⟨ret_int (by have := H.out; rw [List.take_length] at this; exact (idxF_none l p this).symm), rfl⟩

set_option maxRecDepth 100000 in
set_option maxHeartbeats 400000 in
theorem ContainsFunc_any (A : Nat → Prop) (v : Value) (l : List Int) (w : World) (h : RI A w v l) (f : FuncId) (c0 : Value) (p : Int → Bool)
    (hcf : ∀ x (w : World), (callFunc f #[.int .i64 x, c0]).run Tryz.prog w = .ok (.enter f #[.int .i64 x, c0]) w)
    (hp : ∀ x, x ∈ l → Calls Tryz.prog f #[.int .i64 x, c0] w fun e w' => e = .returned (.bool (p x)) ∧ w = w') :
    Calls Tryz.prog 91 #[v, .func (.func f) #[] #[c0]] w fun e w' => e = .returned (.bool (l.any p)) ∧ w = w' := by
  have hge := idxF_ge l p
  have H := Lib.hid hge
  have HP := Lib.hid hp
  clear hge hp
  have HC := Lib.hid hcf
  clear hcf
  go_enter Tryz.func91, Tryz.ntmps91
  go_wp2_with fail
  refine (IndexFunc_any A v l w h f c0 p HC.out HP.out).mono ?_
  rintro e w' ⟨rfl, rfl⟩
  go_wp2_with fail
  go_ret
  exact ⟨ret_bool H.out, rfl⟩

theorem cfBelow (x : Int) (c0 : Value) (w : World) : (callFunc 157 #[.int .i64 x, c0]).run Tryz.prog w = .ok (.enter 157 #[.int .i64 x, c0]) w := by kernel_rfl
set_option maxHeartbeats 400000 in
theorem areBelow1_any (x n : Int) (b : Nat) (w : World) (h : w.cell? ⟨b, 0, none⟩ = some (.int .i64 n)) (hn : -9223372036854775807 ≤ n) (hn' : n ≤ 9223372036854775807) :
    Calls Tryz.prog 157 #[.int .i64 x, .pointer (some ⟨b, 0, none⟩)] w fun e w' => e = .returned (.bool (!inB x 0 (n - 1))) ∧ w = w' := by
  go_enter Tryz.func157, Tryz.ntmps157
  go_wp2_with (go_at_call 57; refine (within_any _ _ _ _).mono ?_; rintro e w' ⟨rfl, rfl⟩)
  go_ret
  exact ⟨rfl, rfl⟩

theorem belowB_any (n : Int) (l : List Int) : (!l.any fun x => !inB x 0 (n - 1)) = belowB n l := by
  unfold belowB
  induction l with
  | nil => rfl
  | cons a l ih => simp only [List.any_cons, List.all_cons, Bool.not_or, Bool.not_not, ih]
set_option maxHeartbeats 400000 in
theorem areBelow_any (A : Nat → Prop) (v : Value) (l : List Int) (n : Int) (w : World) (h : RI A w v l) (hn : -9223372036854775807 ≤ n) (hn' : n ≤ 9223372036854775807) :
    Calls Tryz.prog 124 #[.int .i64 n, v] w (Ret fun v' w' => v' = .bool (belowB n l) ∧ Chg No w w') := by
  have H := Lib.hid (belowB_any n l)
  go_enter Tryz.func124, Tryz.ntmps124
  go_wp2_with fail
  refine (ContainsFunc_any A v l _ (h.keep ((Chg.refl No w).alloc _)) _ _ (fun x => !inB x 0 (n - 1)) (fun x w => cfBelow x _ w) (fun x _ => areBelow1_any x n _ _ (by rw [World.cell?_alloc_new]; rfl) hn hn')).mono ?_
  rintro e w1 ⟨rfl, rfl⟩
  go_wp2_with fail
  go_ret
  exact ⟨_, rfl, by rw [H.out]; rfl, (Chg.refl No w).alloc _⟩

end Go.Proofs.YtndhijckbponkaaGreat
