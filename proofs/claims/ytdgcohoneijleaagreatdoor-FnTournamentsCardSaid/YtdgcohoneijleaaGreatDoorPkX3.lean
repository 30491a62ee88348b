import Derived.Test.YtdgcohoneijleaaGreatDoorBase
import Derived.Test.YtdgcohoneijleaaGreatDoorPkX2
set_option maxRecDepth 100000
namespace Go.Proofs.YtdgcohoneijleaaGreatDoor
open Go.RowKit
set_option maxHeartbeats 400000 in
theorem l1In_any (x a b : Int) (w : World) :
  Calls Tryz.prog 80 #[.int .i64 x, .int .i64 a, .int .i64 b] w fun e w' => e = .returned (.bool (inB x a b)) ∧ w = w' := by
 by_cases h1 : a ≤ x <;> by_cases h2 : x ≤ b
 all_goals
  have H : Hid (inB x a b = (decide (a ≤ x) && decide (x ≤ b))) := rfl
  go_enter Tryz.func80, Tryz.ntmps80
  go_wp2
  go_ret
  exact ⟨ret_bool (by rw [H.out]; simp [h1, h2]), rfl⟩
set_option maxHeartbeats 400000 in
theorem l3Items_any (x : Int) (w : World) :
  Calls Tryz.prog 54 #[.int .i64 x] w fun e w' => e = .returned (.bool (inB x 1 8)) ∧ w = w' := by
 go_enter Tryz.func54, Tryz.ntmps54
 go_wp2_with (go_at_call 80; refine (l1In_any _ _ _ _).mono ?_; rintro e w' ⟨rfl, rfl⟩)
 go_ret
 exact ⟨rfl, rfl⟩
set_option maxHeartbeats 400000 in
theorem l4Sizes_any (x y : Int) (w : World) :
  Calls Tryz.prog 83 #[.int .i64 x, .int .i64 y] w fun e w' => e = .returned (.bool (inB x 1 7 && inB y 1 6)) ∧ w = w' := by
 go_enter Tryz.func83, Tryz.ntmps83
 go_wp2_with (go_at_call 80; refine (l1In_any _ _ _ _).mono ?_; rintro e w' ⟨rfl, rfl⟩)
 all_goals go_ret
 all_goals exact ⟨ret_bool (by simp [*]), rfl⟩
set_option maxHeartbeats 400000 in
theorem l1Has_any (A : Nat → Prop) (v : Value) (l : List Int) (n : Int) (w : World) (h : RI A w v l) :
  Calls Tryz.prog 156 #[v, .int .i64 n] w fun e w' => e = .returned (.bool (hasB l n)) ∧ w = w' := by
 obtain ⟨a, cap, rfl, hcap, hmax, hlen, _, hc⟩ := h
 go_enter Tryz.func156, Tryz.ntmps156
 go_wp2
 go_loop [4, 5] (fun r i => ∃ k : Nat, k ≤ l.length ∧ i = .int .i64 k ∧ r = .bool false ∧ hasB (l.take k) n = false) (fun _ i => l.length - (intOf i).toNat)
 case atStart => exact ⟨0, Nat.zero_le _, rfl, rfl, rfl⟩
 case round =>
  obtain ⟨k, hk, rfl, rfl, hh⟩ := hrel
  have H := Lib.hid hh
  clear hh
  by_cases hlt : k < l.length
  ·obtain ⟨b, off, rfl, _, _, hcell⟩ := hc (by intro e; simp [e] at hlt)
   have hck := hcell k hlt
   have hs := Lib.hid (hasB_snoc l n k hlt)
   go_wp2
   ·go_ret
    have h : (l[k] == n) = true := by assumption
    have h1 : hasB l n = true := by
     unfold hasB
     rw [List.contains_iff_mem, ← beq_iff_eq.1 h]
     exact List.getElem_mem hlt
    exact ⟨ret_bool h1.symm, rfl⟩
   ·have h : (l[k] == n) = false := by assumption
    go_round
    case rel => exact ⟨k + 1, by omega, by go_num, rfl, by rw [hs.out, H.out, h]; rfl⟩
    case measure => simp [intOf]; omega
  ·have hkl : k = l.length := by omega
   go_wp2
   go_ret
   subst hkl
   exact ⟨ret_bool (by have := H.out; rw [List.take_length] at this; exact this.symm), rfl⟩
set_option maxHeartbeats 400000 in
theorem l3List_any (A : Nat → Prop) (v : Value) (l : List Int) (n : Int) (w : World) (h : RI A w v l) (hn : -9223372036854775807 ≤ n) (hn' : n ≤ 9223372036854775807) :
  Calls Tryz.prog 119 #[.int .i64 n, v] w fun e w' => e = .returned (.bool (belowB n l)) ∧ w = w' := by
 obtain ⟨a, cap, rfl, hcap, hmax, hlen, _, hc⟩ := h
 go_enter Tryz.func119, Tryz.ntmps119
 go_wp2
 go_loop [4, 5] (fun r i => ∃ k : Nat, k ≤ l.length ∧ i = .int .i64 k ∧ r = .bool false ∧ belowB n (l.take k) = true) (fun _ i => l.length - (intOf i).toNat)
 case atStart => exact ⟨0, Nat.zero_le _, rfl, rfl, rfl⟩
 case round =>
  obtain ⟨k, hk, rfl, rfl, hh⟩ := hrel
  have H := Lib.hid hh
  clear hh
  by_cases hlt : k < l.length
  ·obtain ⟨b, off, rfl, _, _, hcell⟩ := hc (by intro e; simp [e] at hlt)
   have hck := hcell k hlt
   have hs := Lib.hid (belowB_snoc n l k hlt)
   have ht := Lib.hid (belowB_stop n l k hlt)
   go_wp2_with (go_at_call 80; refine (l1In_any _ _ _ _).mono ?_; rintro e w' ⟨rfl, rfl⟩)
   ·go_ret
    have h : (!inB l[k] 0 (n - 1)) = true := by assumption
    have h : inB l[k] 0 (n - 1) = false := by simpa using h
    exact ⟨ret_bool (ht.out h).symm, rfl⟩
   ·have h : (!inB l[k] 0 (n - 1)) = false := by assumption
    have h : inB l[k] 0 (n - 1) = true := by simpa using h
    go_round
    case rel => exact ⟨k + 1, by omega, by go_num, rfl, by rw [hs.out, H.out, h]; rfl⟩
    case measure => simp [intOf]; omega
  ·have hkl : k = l.length := by omega
   go_wp2
   go_ret
   subst hkl
   exact ⟨ret_bool (by have := H.out; rw [List.take_length] at this; exact this.symm), rfl⟩
set_option maxHeartbeats 400000 in
theorem l3Good_any (A : Nat → Prop) (v : Value) (l : List Int) (n : Int) (w : World) (h : RI A w v l) :
  Calls Tryz.prog 70 #[.int .i64 n, v] w fun e w' => e = .returned (.bool (inB n 1 8 && decide (l.length ≤ 60) && belowB n l)) ∧ w = w' := by
 have h' := h
 obtain ⟨a, cap, rfl, hcap, hmax, hlen, _, hc⟩ := h
 go_enter Tryz.func70, Tryz.ntmps70
 by_cases h8 : inB n 1 8 = true
 ·have hb := inB_iff.1 h8
  by_cases h60 : l.length ≤ 60
  ·go_wp2_with (first | (go_at_call 54; refine (l3Items_any _ _).mono ?_; rintro e w' ⟨rfl, rfl⟩) | (go_at_call 119; refine (l3List_any _ _ _ _ _ h' (by omega) (by omega)).mono ?_; rintro e w' ⟨rfl, rfl⟩))
   go_ret
   exact ⟨ret_bool (by simp [*]), rfl⟩
  ·go_wp2_with (first | (go_at_call 54; refine (l3Items_any _ _).mono ?_; rintro e w' ⟨rfl, rfl⟩) | (go_at_call 119; refine (l3List_any _ _ _ _ _ h' (by omega) (by omega)).mono ?_; rintro e w' ⟨rfl, rfl⟩))
   go_ret
   exact ⟨ret_bool (by simp [*]), rfl⟩
 ·have h8 : inB n 1 8 = false := by simpa using h8
  go_wp2_with (first | (go_at_call 54; refine (l3Items_any _ _).mono ?_; rintro e w' ⟨rfl, rfl⟩) | (go_at_call 119; refine (l3List_any _ _ _ _ _ h' (by omega) (by omega)).mono ?_; rintro e w' ⟨rfl, rfl⟩))
  go_ret
  exact ⟨ret_bool (by simp [*]), rfl⟩
set_option maxHeartbeats 400000 in
theorem l1Own_any (A : Nat → Prop) (v : Value) (l : List Int) (w : World) (h : RI A w v l) :
  Calls Tryz.prog 114 #[v] w (Ret fun v' w' => OI w.heap.size w' v' l ∧ Chg No w w') := by
 go_enter Tryz.func114, Tryz.ntmps114
 have hL := h.len
 go_wp2_with (at_builtin; refine wapp rfl (.tmp 3) (.tmp 4) rfl (OI.zero (Nat.le_refl w.heap.size)) ((h.weak (fun _ hk _ => hk.elim)).keep ((Chg.refl No w).alloc _)) rfl rfl (by simpa using hL) (by simp) ?_; intro v1 w1 h1 h2 h3)
 go_ret
 exact ⟨_, rfl, by simpa using h1, ((Chg.refl No w).alloc _).own h2 (OI.zero (Nat.le_refl _)) (Nat.le_refl _)⟩
set_option maxHeartbeats 400000 in
theorem l4Front_any (A : Nat → Prop) (v : Value) (l : List Int) (n : Int) (w : World) (h : RI A w v l) (hl : l.length < 17592186044416) :
  Calls Tryz.prog 187 #[v, .int .i64 n] w (Ret fun v' w' => OI w.heap.size w' v' (n :: l) ∧ Chg No w w') := by
 go_enter Tryz.func187, Tryz.ntmps187
 go_wp2_with (at_builtin; refine wapp rfl (.tmp 6) (.tmp 7) rfl (OI.one (Nat.le_refl w.heap.size)) ((h.weak (fun _ hk _ => hk.elim)).keep ((Chg.refl No w).alloc _)) rfl rfl (by simp; omega) (by simp) ?_; intro v1 w1 h1 h2 h3)
 go_ret
 exact ⟨_, rfl, by simpa using h1, ((Chg.refl No w).alloc _).own h2 (OI.one (Nat.le_refl _)) (Nat.le_refl _)⟩
set_option maxHeartbeats 400000 in
theorem l4Without_any (A : Nat → Prop) (v : Value) (l : List Int) (i : Nat) (w : World) (h : RI A w v l) (hi : i < l.length) :
  Calls Tryz.prog 188 #[v, .int .i64 i] w (Ret fun v' w' => OI w.heap.size w' v' (l.eraseIdx i) ∧ Chg No w w') := by
 obtain ⟨a, cap, rfl, hcap, hmax, hlen, h0, hc⟩ := id h
 obtain ⟨x1, hx1, hR1⟩ := h.upto i _ rfl (by omega)
 obtain ⟨x2, hx2, hR2⟩ := h.from (i + 1) ((i : Int) + 1) (by omega) (by omega)
 have hw : IntKind.i64.wrap ((i : Int) + 1) = (i : Int) + 1 := IntWalk.i64_in _ (by omega)
 go_enter Tryz.func188, Tryz.ntmps188
 go_wp2_with fail
 go_region_held3 (fun w' => Hid True) (exact trivial) (first | (go_at_call 114; refine (l1Own_any A _ (l.take i) _ (hR1.keep (Chg.refl No w).drew)).mono ?_; rintro e w1 ⟨v1, rfl, h1, h2⟩) | (refine sapp rfl (.tmp 8) (.tmp 12) rfl h1 ((hR2.weak (fun _ hk _ => hk.elim)).keep ((Chg.refl No w).drew.keep h2)) rfl rfl (by simp; omega) h2.size ?_; intro v2 w2 h3 h4 h5))
 go_wp2
 go_ret
 exact ⟨_, rfl, by rw [List.eraseIdx_eq_take_drop_succ]; exact h3, ((Chg.refl No w).drew.keep h2).own h4 h1 (Nat.le_refl _)⟩
set_option maxHeartbeats 400000 in
theorem l4With_any (A : Nat → Prop) (v : Value) (l : List Int) (i : Nat) (x : Int) (w : World) (h : RI A w v l) (hi : i < l.length) :
  Calls Tryz.prog 189 #[v, .int .i64 i, .int .i64 x] w (Ret fun v' w' => OI w.heap.size w' v' (l.set i x) ∧ Chg No w w') := by
 go_enter Tryz.func189, Tryz.ntmps189
 go_wp2_with fail
 refine (l1Own_any A v l w h).mono ?_
 rintro e w1 ⟨v1, rfl, h1, h2⟩
 obtain ⟨a, cap, rfl, hcap, hmax, hv⟩ := h1.view
 obtain ⟨g, rfl, hg1, hg2, hcell, hfr⟩ := hv (by omega)
 have hc := hcell i hi
 have hf := hfr i
 obtain ⟨h3, h4⟩ := h1.store i x
 go_wp2
 go_ret
 exact ⟨_, rfl, h3, h2.step h4 (fun k hk hl => by omega)⟩
set_option maxHeartbeats 400000 in
theorem l1Least_any (a b : Int) (w : World) :
  Calls Tryz.prog 137 #[.int .i64 a, .int .i64 b] w fun e w' => e = .returned (.int .i64 (min a b)) ∧ w = w' := by
 by_cases h : a < b
 all_goals
  go_enter Tryz.func137, Tryz.ntmps137
  go_wp2
  go_ret
  exact ⟨ret_int (by omega), rfl⟩
end Go.Proofs.YtdgcohoneijleaaGreatDoor
namespace Go.Proofs.YtdgcohoneijleaaGreatDoor
open Go.RowKit
set_option maxHeartbeats 400000 in
theorem within_any (x a b : Int) (w : World) :
  Calls Tryz.prog 45 #[.int .i64 x, .int .i64 a, .int .i64 b] w fun e w' => e = .returned (.bool (inB x a b)) ∧ w = w' := by
 by_cases h1 : a ≤ x <;> by_cases h2 : x ≤ b
 all_goals
  have H : Hid (inB x a b = (decide (a ≤ x) && decide (x ≤ b))) := rfl
  go_enter Tryz.func45, Tryz.ntmps45
  go_wp2
  go_ret
  exact ⟨ret_bool (by rw [H.out]; simp [h1, h2]), rfl⟩
set_option maxHeartbeats 400000 in
theorem isItems_any (x : Int) (w : World) :
  Calls Tryz.prog 53 #[.int .i64 x] w fun e w' => e = .returned (.bool (inB x 1 8)) ∧ w = w' := by
 go_enter Tryz.func53, Tryz.ntmps53
 go_wp2_with (go_at_call 45; refine (within_any _ _ _ _).mono ?_; rintro e w' ⟨rfl, rfl⟩)
 go_ret
 exact ⟨rfl, rfl⟩
set_option maxHeartbeats 400000 in
theorem isPolicy_any (x : Int) (w : World) :
  Calls Tryz.prog 57 #[.int .i64 x] w fun e w' => e = .returned (.bool (inB x 1 7)) ∧ w = w' := by
 go_enter Tryz.func57, Tryz.ntmps57
 go_wp2_with (go_at_call 45; refine (within_any _ _ _ _).mono ?_; rintro e w' ⟨rfl, rfl⟩)
 go_ret
 exact ⟨rfl, rfl⟩
set_option maxHeartbeats 400000 in
theorem isSize_any (x : Int) (w : World) :
  Calls Tryz.prog 46 #[.int .i64 x] w fun e w' => e = .returned (.bool (inB x 1 6)) ∧ w = w' := by
 go_enter Tryz.func46, Tryz.ntmps46
 go_wp2_with (go_at_call 45; refine (within_any _ _ _ _).mono ?_; rintro e w' ⟨rfl, rfl⟩)
 go_ret
 exact ⟨rfl, rfl⟩
set_option maxHeartbeats 400000 in
theorem IndexFunc_any (A : Nat → Prop) (v : Value) (l : List Int) (w : World) (h : RI A w v l) (f : FuncId) (c0 : Value) (p : Int → Bool)
  (hcf : ∀ x (w : World), (callFunc f #[.int .i64 x, c0]).run Tryz.prog w = .ok (.enter f #[.int .i64 x, c0]) w)
  (hp : ∀ x, x ∈ l → Calls Tryz.prog f #[.int .i64 x, c0] w fun e w' => e = .returned (.bool (p x)) ∧ w = w') :
  Calls Tryz.prog 169 #[v, .func (.func f) #[] #[c0]] w fun e w' => e = .returned (.int .i64 (idxF l p)) ∧ w = w' := by
 obtain ⟨a, cap, rfl, hcap, hmax, hlen, _, hc⟩ := h
 have HP := Lib.hid hp
 clear hp
 go_enter Tryz.func169, Tryz.ntmps169
 go_wp2
 go_loop [4, 8] (fun r i => ∃ k : Nat, k ≤ l.length ∧ i = .int .i64 k ∧ r = .int .i64 0 ∧ (l.take k).any p = false) (fun _ i => l.length - (intOf i).toNat)
 case atStart => exact ⟨0, Nat.zero_le _, rfl, rfl, rfl⟩
 case round =>
  obtain ⟨k, hk, rfl, rfl, hh⟩ := hrel
  have H := Lib.hid hh
  clear hh
  by_cases hlt : k < l.length
  ·obtain ⟨b, off, rfl, _, _, hcell⟩ := hc (by intro e; simp [e] at hlt)
   have hck := hcell k hlt
   have hs := Lib.hid (any_snoc l p k hlt)
   have ht := Lib.hid (idxF_hit l p k hlt)
   have hm : l[k] ∈ l := List.getElem_mem hlt
   go_wp2_with fail
   refine (HP.out _ hm).mono ?_
   rintro e w' ⟨rfl, rfl⟩
   go_wp2
   ·go_ret
    have h : p l[k] = true := by assumption
    exact ⟨ret_int (ht.out h H.out).symm, rfl⟩
   ·have h : p l[k] = false := by assumption
    go_round
    case rel => exact ⟨k + 1, by omega, by go_num, rfl, by rw [hs.out, H.out, h]; rfl⟩
    case measure => simp [intOf]; omega
  ·have hkl : k = l.length := by omega
   go_wp2
   go_ret
   subst hkl
   exact ⟨ret_int (by have := H.out; rw [List.take_length] at this; exact (idxF_none l p this).symm), rfl⟩
set_option maxHeartbeats 400000 in
theorem ContainsFunc_any (A : Nat → Prop) (v : Value) (l : List Int) (w : World) (h : RI A w v l) (f : FuncId) (c0 : Value) (p : Int → Bool)
  (hcf : ∀ x (w : World), (callFunc f #[.int .i64 x, c0]).run Tryz.prog w = .ok (.enter f #[.int .i64 x, c0]) w)
  (hp : ∀ x, x ∈ l → Calls Tryz.prog f #[.int .i64 x, c0] w fun e w' => e = .returned (.bool (p x)) ∧ w = w') :
  Calls Tryz.prog 139 #[v, .func (.func f) #[] #[c0]] w fun e w' => e = .returned (.bool (l.any p)) ∧ w = w' := by
 have hge := idxF_ge l p
 have H := Lib.hid hge
 have HP := Lib.hid hp
 clear hge hp
 have HC := Lib.hid hcf
 clear hcf
 go_enter Tryz.func139, Tryz.ntmps139
 go_wp2_with fail
 refine (IndexFunc_any A v l w h f c0 p HC.out HP.out).mono ?_
 rintro e w' ⟨rfl, rfl⟩
 go_wp2_with fail
 go_ret
 exact ⟨ret_bool H.out, rfl⟩
theorem cfBelow (x : Int) (c0 : Value) (w : World) : (callFunc 140 #[.int .i64 x, c0]).run Tryz.prog w = .ok (.enter 140 #[.int .i64 x, c0]) w := by kernel_rfl
set_option maxHeartbeats 400000 in
theorem areBelow1_any (x n : Int) (b : Nat) (w : World) (h : w.cell? ⟨b, 0, none⟩ = some (.int .i64 n)) (hn : -9223372036854775807 ≤ n) (hn' : n ≤ 9223372036854775807) :
  Calls Tryz.prog 140 #[.int .i64 x, .pointer (some ⟨b, 0, none⟩)] w fun e w' => e = .returned (.bool (!inB x 0 (n - 1))) ∧ w = w' := by
 go_enter Tryz.func140, Tryz.ntmps140
 go_wp2_with (go_at_call 45; refine (within_any _ _ _ _).mono ?_; rintro e w' ⟨rfl, rfl⟩)
 go_ret
 exact ⟨rfl, rfl⟩
theorem belowB_any (n : Int) (l : List Int) : (!l.any fun x => !inB x 0 (n - 1)) = belowB n l := by
 unfold belowB
 induction l with
 | nil => rfl
 | cons a l ih => simp only [List.any_cons, List.all_cons, Bool.not_or, Bool.not_not, ih]
set_option maxHeartbeats 400000 in
theorem areBelow_any (A : Nat → Prop) (v : Value) (l : List Int) (n : Int) (w : World) (h : RI A w v l) (hn : -9223372036854775807 ≤ n) (hn' : n ≤ 9223372036854775807) :
  Calls Tryz.prog 96 #[.int .i64 n, v] w (Ret fun v' w' => v' = .bool (belowB n l) ∧ Chg No w w') := by
 have H := Lib.hid (belowB_any n l)
 go_enter Tryz.func96, Tryz.ntmps96
 go_wp2_with fail
 refine (ContainsFunc_any A v l _ (h.keep ((Chg.refl No w).alloc _)) _ _ (fun x => !inB x 0 (n - 1)) (fun x w => cfBelow x _ w) (fun x _ => areBelow1_any x n _ _ (by rw [World.cell?_alloc_new]; rfl) hn hn')).mono ?_
 rintro e w1 ⟨rfl, rfl⟩
 go_wp2_with fail
 go_ret
 exact ⟨_, rfl, by rw [H.out]; rfl, (Chg.refl No w).alloc _⟩
set_option maxHeartbeats 400000 in
theorem IsRequests_any (A : Nat → Prop) (v : Value) (l : List Int) (n : Int) (w : World) (h : RI A w v l) :
  Calls Tryz.prog 56 #[.int .i64 n, v] w (Ret fun v' w' => v' = .bool (inB n 1 8 && decide (l.length ≤ 60) && belowB n l) ∧ Chg No w w') := by
 have h' := h
 obtain ⟨a, cap, rfl, hcap, hmax, hlen, _, hc⟩ := h
 clear hc
 go_enter Tryz.func56, Tryz.ntmps56
 by_cases h8 : inB n 1 8 = true
 ·have hb := inB_iff.1 h8
  by_cases h60 : l.length ≤ 60
  ·go_wp2_with (first | (go_at_call 53; refine (isItems_any _ _).mono ?_; rintro e w' ⟨rfl, rfl⟩) | (go_at_call 96; refine (areBelow_any _ _ _ _ _ h' (by omega) (by omega)).mono ?_; rintro e w' ⟨v', rfl, rfl, hch⟩))
   go_ret
   exact ⟨_, rfl, by simp [*], hch⟩
  ·go_wp2_with (first | (go_at_call 53; refine (isItems_any _ _).mono ?_; rintro e w' ⟨rfl, rfl⟩))
   go_ret
   exact ⟨_, rfl, by simp [*], Chg.refl _ _⟩
 ·have h8 : inB n 1 8 = false := by simpa using h8
  go_wp2_with (first | (go_at_call 53; refine (isItems_any _ _).mono ?_; rintro e w' ⟨rfl, rfl⟩))
  go_ret
  exact ⟨_, rfl, by simp [*], Chg.refl _ _⟩
set_option maxHeartbeats 400000 in
theorem Index_any (A : Nat → Prop) (v : Value) (l : List Int) (n : Int) (w : World) (h : RI A w v l) :
  Calls Tryz.prog 141 #[v, .int .i64 n] w fun e w' => e = .returned (.int .i64 (atI l n)) ∧ w = w' := by
 obtain ⟨a, cap, rfl, hcap, hmax, hlen, _, hc⟩ := h
 go_enter Tryz.func141, Tryz.ntmps141
 go_wp2
 go_loop [4, 8] (fun r i => ∃ k : Nat, k ≤ l.length ∧ i = .int .i64 k ∧ r = .int .i64 0 ∧ hasB (l.take k) n = false) (fun _ i => l.length - (intOf i).toNat)
 case atStart => exact ⟨0, Nat.zero_le _, rfl, rfl, rfl⟩
 case round =>
  obtain ⟨k, hk, rfl, rfl, hh⟩ := hrel
  have H := Lib.hid hh
  clear hh
  by_cases hlt : k < l.length
  ·obtain ⟨b, off, rfl, _, _, hcell⟩ := hc (by intro e; simp [e] at hlt)
   have hck := hcell k hlt
   have hs := Lib.hid (hasB_snoc l n k hlt)
   have ht := Lib.hid (atI_hit l n k hlt)
   go_wp2
   ·go_ret
    have h : (n == l[k]) = true := by assumption
    exact ⟨ret_int (ht.out (beq_iff_eq.1 h).symm H.out).symm, rfl⟩
   ·have h : (n == l[k]) = false := by assumption
    go_round
    case rel => exact ⟨k + 1, by omega, by go_num, rfl, by rw [hs.out, H.out, BEq.comm, h]; rfl⟩
    case measure => simp [intOf]; omega
  ·have hkl : k = l.length := by omega
   go_wp2
   go_ret
   subst hkl
   exact ⟨ret_int (by have := H.out; rw [List.take_length] at this; exact (atI_none l n this).symm), rfl⟩
end Go.Proofs.YtdgcohoneijleaaGreatDoor
