import Derived.Test.YtndhijckbponkaaGreatPkX2
/- plain: sequences of items in order, their weights and the sum of their faults -/
namespace Go.Proofs.YtndhijckbponkaaGreat

/-- a sum over the first numbers -/
def sumTo (g : Nat → Int) : Nat → Int
  | 0 => 0
  | m + 1 => sumTo g m + g m
/-- the product of the weights of a sequence -/
def wt (ws s : List Int) : Int := s.foldl (fun p x => p * ws.getD x.toNat 0) 1
end Go.Proofs.YtndhijckbponkaaGreat

/- sums, powers and weights, both sides -/
namespace Go.Proofs.YtndhijckbponkaaGreat
open Go.RowKit

/-- the sum of a list -/
def sumW (l : List Int) : Int := sumTo (fun a => l.getD a 0) l.length
set_option maxRecDepth 100000 in
theorem total_any (A : Nat → Prop) (v : Value) (l : List Int) (w : World) (h : RI A w v l) (hb : ∀ j, j ≤ l.length → -1000000000 ≤ sumTo (fun a => l.getD a 0) j ∧ sumTo (fun a => l.getD a 0) j ≤ 1000000000) :
    Calls Tryz.prog 51 #[v] w fun e w' => e = .returned (.int .i64 (sumW l)) ∧ w = w' := by
  obtain ⟨a, cap, rfl, hcap, hmax, hlen, _, hc⟩ := h
  have HB := Lib.hid hb
  clear hb
  go_enter Tryz.func51, Tryz.ntmps51
  go_wp2
  go_loop [3, 8] (fun s i => ∃ k : Nat, k ≤ l.length ∧ i = .int .i64 k ∧ s = .int .i64 (sumTo (fun a => l.getD a 0) k)) (fun _ i => l.length - (intOf i).toNat)
  case atStart => exact ⟨0, Nat.zero_le _, rfl, rfl⟩
  case round =>
    obtain ⟨k, hk, rfl, rfl⟩ := hrel
    by_cases hlt : k < l.length
    · obtain ⟨b, off, rfl, _, _, hcell⟩ := hc (by intro e; simp [e] at hlt)
      have hck := hcell k hlt
      have hs : sumTo (fun a => l.getD a 0) (k + 1) = sumTo (fun a => l.getD a 0) k + l.getD k 0 := rfl
      have hb1 := HB.out (k + 1) hlt
      obtain ⟨x, hx⟩ : ∃ x, l.getD k 0 = x := ⟨_, rfl⟩
      rw [hx] at hck hs
      obtain ⟨s, hss⟩ : ∃ s, sumTo (fun a => l.getD a 0) k = s := ⟨_, rfl⟩
      rw [hss] at hs ⊢
      have hw : IntKind.i64.wrap (s + x) = s + x := IntWalk.i64_in _ (by omega)
      have hkw : IntKind.i64.wrap ((k : Int) + 1) = (k : Int) + 1 := IntWalk.i64_in _ (by omega)
      have hk0 : (0 : Int) ≤ (k : Int) := Int.natCast_nonneg _
      have hk1 : (k : Int) < (l.length : Int) := by omega
      have HS := Lib.hid hs
      clear hcell hc hx hss hs hb1
      go_wp2
      go_round
      case rel => exact ⟨k + 1, hlt, by go_num, by rw [HS.out]⟩
      case measure => simp [intOf]; omega
    · have hkl : k = l.length := by omega
      subst hkl
      clear hc
      go_wp2
      go_ret
      exact ⟨rfl, rfl⟩

set_option maxRecDepth 100000 in
theorem l11Sum_any (A : Nat → Prop) (v : Value) (l : List Int) (w : World) (h : RI A w v l) (hb : ∀ j, j ≤ l.length → -1000000000 ≤ sumTo (fun a => l.getD a 0) j ∧ sumTo (fun a => l.getD a 0) j ≤ 1000000000) :
    Calls Tryz.prog 45 #[v] w fun e w' => e = .returned (.int .i64 (sumW l)) ∧ w = w' := by
  obtain ⟨a, cap, rfl, hcap, hmax, hlen, _, hc⟩ := h
  have HB := Lib.hid hb
  clear hb
  go_enter Tryz.func45, Tryz.ntmps45
  go_wp2
  go_loop [3, 4] (fun s i => ∃ k : Nat, k ≤ l.length ∧ i = .int .i64 k ∧ s = .int .i64 (sumTo (fun a => l.getD a 0) k)) (fun _ i => l.length - (intOf i).toNat)
  case atStart => exact ⟨0, Nat.zero_le _, rfl, rfl⟩
  case round =>
    obtain ⟨k, hk, rfl, rfl⟩ := hrel
    by_cases hlt : k < l.length
    · obtain ⟨b, off, rfl, _, _, hcell⟩ := hc (by intro e; simp [e] at hlt)
      have hck := hcell k hlt
      have hs : sumTo (fun a => l.getD a 0) (k + 1) = sumTo (fun a => l.getD a 0) k + l.getD k 0 := rfl
      have hb1 := HB.out (k + 1) hlt
      obtain ⟨x, hx⟩ : ∃ x, l.getD k 0 = x := ⟨_, rfl⟩
      rw [hx] at hck hs
      obtain ⟨s, hss⟩ : ∃ s, sumTo (fun a => l.getD a 0) k = s := ⟨_, rfl⟩
      rw [hss] at hs ⊢
      have hw : IntKind.i64.wrap (s + x) = s + x := IntWalk.i64_in _ (by omega)
      have hkw : IntKind.i64.wrap ((k : Int) + 1) = (k : Int) + 1 := IntWalk.i64_in _ (by omega)
      have hk0 : (0 : Int) ≤ (k : Int) := Int.natCast_nonneg _
      have hk1 : (k : Int) < (l.length : Int) := by omega
      have HS := Lib.hid hs
      clear hcell hc hx hss hs hb1
      go_wp2
      go_round
      case rel => exact ⟨k + 1, hlt, by go_num, by rw [HS.out]⟩
      case measure => simp [intOf]; omega
    · have hkl : k = l.length := by omega
      subst hkl
      clear hc
      go_wp2
      go_ret
      exact ⟨rfl, rfl⟩

/-- numbers are weights from a least one on -/
def wgB (low : Int) (l : List Int) : Bool := l.all fun x => inB x low 9
theorem wgB_snoc (low : Int) (l : List Int) (k : Nat) (h : k < l.length) : wgB low (l.take (k + 1)) = (wgB low (l.take k) && inB (l.getD k 0) low 9) := by
  have e : l.getD k 0 = l[k] := by rw [List.getD_eq_getElem?_getD, List.getElem?_eq_getElem h]; rfl
  rw [take_snoc l k h, wgB, List.all_append, e]
  simp [wgB]
theorem wgB_stop (low : Int) (l : List Int) (k : Nat) (h : k < l.length) (hk : inB (l.getD k 0) low 9 = false) : wgB low l = false := by
  rw [wgB, List.all_eq_false]
  exact ⟨_, getD_mem h, by rw [hk]; decide⟩
set_option maxRecDepth 100000 in
theorem l11Weights_any (A : Nat → Prop) (v : Value) (l : List Int) (low : Int) (w : World) (h : RI A w v l) :
    Calls Tryz.prog 99 #[v, .int .i64 low] w fun e w' => e = .returned (.bool (wgB low l)) ∧ w = w' := by
  obtain ⟨a, cap, rfl, hcap, hmax, hlen, _, hc⟩ := h
  go_enter Tryz.func99, Tryz.ntmps99
  go_wp2
  go_loop [4, 5] (fun r i => ∃ k : Nat, k ≤ l.length ∧ i = .int .i64 k ∧ r = .bool false ∧ wgB low (l.take k) = true) (fun _ i => l.length - (intOf i).toNat)
  case atStart => exact ⟨0, Nat.zero_le _, rfl, rfl, rfl⟩
  case round =>
    obtain ⟨k, hk, rfl, rfl, hh⟩ := hrel
    have H := Lib.hid hh
    clear hh
    by_cases hlt : k < l.length
    · obtain ⟨b, off, rfl, _, _, hcell⟩ := hc (by intro e; simp [e] at hlt)
      have hck := hcell k hlt
      have hs := Lib.hid (wgB_snoc low l k hlt)
      have ht := Lib.hid (wgB_stop low l k hlt)
      obtain ⟨x, hx⟩ : ∃ x, l.getD k 0 = x := ⟨_, rfl⟩
      rw [hx] at hck hs ht
      clear hx hcell
      go_wp2_with (go_at_call 97; refine (l1In_any _ _ _ _).mono ?_; rintro e w' ⟨rfl, rfl⟩)
      · go_ret
        have h : (!inB x low 9) = true := by assumption
        have h : inB x low 9 = false := by simpa using h
        exact ⟨ret_bool (ht.out h).symm, rfl⟩
      · have h : (!inB x low 9) = false := by assumption
        have h : inB x low 9 = true := by simpa using h
        go_round
        case rel => exact ⟨k + 1, by omega, by go_num, rfl, by rw [hs.out, H.out, h]; rfl⟩
        case measure => simp [intOf]; omega
    · have hkl : k = l.length := by omega
      go_wp2
      go_ret
      subst hkl
      exact ⟨ret_bool (by have := H.out; rw [List.take_length] at this; exact this.symm), rfl⟩

theorem cfWeights (x : Int) (c0 : Value) (w : World) : (callFunc 148 #[.int .i64 x, c0]).run Tryz.prog w = .ok (.enter 148 #[.int .i64 x, c0]) w := by kernel_rfl
theorem areWeights1_any (x n : Int) (b : Nat) (w : World) (h : w.cell? ⟨b, 0, none⟩ = some (.int .i64 n)) :
    Calls Tryz.prog 148 #[.int .i64 x, .pointer (some ⟨b, 0, none⟩)] w fun e w' => e = .returned (.bool (!inB x n 9)) ∧ w = w' := by
  go_enter Tryz.func148, Tryz.ntmps148
  go_wp2_with (go_at_call 57; refine (within_any _ _ _ _).mono ?_; rintro e w' ⟨rfl, rfl⟩)
  go_ret
  exact ⟨rfl, rfl⟩

theorem wgB_any (n : Int) (l : List Int) : (!l.any fun x => !inB x n 9) = wgB n l := by
  unfold wgB
  induction l with
  | nil => rfl
  | cons a l ih => simp only [List.any_cons, List.all_cons, Bool.not_or, Bool.not_not, ih]
theorem areWeights_any (A : Nat → Prop) (v : Value) (l : List Int) (n : Int) (w : World) (h : RI A w v l) :
    Calls Tryz.prog 94 #[v, .int .i64 n] w (Ret fun v' w' => v' = .bool (wgB n l) ∧ Chg No w w') := by
  have H := Lib.hid (wgB_any n l)
  go_enter Tryz.func94, Tryz.ntmps94
  go_wp2_with fail
  refine (ContainsFunc_any A v l _ (h.keep ((Chg.refl No w).alloc _)) _ _ (fun x => !inB x n 9) (fun x w => cfWeights x _ w) (fun x _ => areWeights1_any x n _ _ (by rw [World.cell?_alloc_new]; rfl))).mono ?_
  rintro e w1 ⟨rfl, rfl⟩
  go_wp2_with fail
  go_ret
  exact ⟨_, rfl, by rw [H.out]; rfl, (Chg.refl No w).alloc _⟩
end Go.Proofs.YtndhijckbponkaaGreat
