import Derived.Test.YtndhijckbponkaaPkX1
/- plain: sequences of items in order, their weights and the sum of their faults -/
namespace Go.Proofs.Ytndhijckbponkaa

/-- a sum over the first numbers -/
def sumTo (g : Nat → Int) : Nat → Int
  | 0 => 0
  | m + 1 => sumTo g m + g m
/-- the sequence with a number, the first item first -/
def digs (n : Nat) : Nat → Nat → List Int
  | 0, _ => []
  | L + 1, t => ((t / n ^ L % n : Nat) : Int) :: digs n L t
theorem digs_len (n L t : Nat) : (digs n L t).length = L := by
  induction L with
  | zero => rfl
  | succ L ih => simp [digs, ih]
theorem digs_at (n L t : Nat) : ∀ j, j < L → (digs n L t).getD j 0 = ((t / n ^ (L - 1 - j) % n : Nat) : Int) := by
  induction L with
  | zero => exact fun j hj => absurd hj (Nat.not_lt_zero _)
  | succ L ih =>
    intro j hj
    cases j with
    | zero => rfl
    | succ j =>
      show (digs n L t).getD j 0 = _
      rw [ih j (by omega), show L + 1 - 1 - (j + 1) = L - 1 - j by omega]
theorem digs_zero (n L : Nat) : digs n L 0 = List.replicate L 0 := by
  induction L with
  | zero => rfl
  | succ L ih => rw [digs, ih, Nat.zero_div, Nat.zero_mod]; rfl
theorem digs_below {n : Nat} (hn : 0 < n) (L t : Nat) : ∀ x ∈ digs n L t, 0 ≤ x ∧ x < (n : Int) := by
  induction L with
  | zero => exact fun x hx => absurd hx (List.not_mem_nil)
  | succ L ih =>
    intro x hx
    rcases List.mem_cons.1 hx with rfl | hx
    · have := Nat.mod_lt (t / n ^ L) hn
      omega
    · exact ih x hx
theorem digs_split {n : Nat} (hn : 0 < n) (L K a b : Nat) (hk : L ≤ K) : digs n L (a * n ^ K + b) = digs n L b := by
  induction L with
  | zero => rfl
  | succ L ih =>
    rw [digs, digs, ih (by omega)]
    have e : n ^ K = n ^ L * n ^ (K - L) := by rw [← Nat.pow_add]; congr 1; omega
    have e2 : n ^ (K - L) = n * n ^ (K - L - 1) := by
      rw [← Nat.pow_succ']; congr 1; omega
    have h1 : (a * n ^ K + b) / n ^ L = a * n ^ (K - L) + b / n ^ L := by
      rw [e, show a * (n ^ L * n ^ (K - L)) + b = b + n ^ L * (a * n ^ (K - L)) by rw [Nat.add_comm, Nat.mul_left_comm], Nat.add_mul_div_left _ _ (Nat.pow_pos hn), Nat.add_comm]
    rw [h1, e2, show a * (n * n ^ (K - L - 1)) + b / n ^ L = b / n ^ L + n * (a * n ^ (K - L - 1)) by rw [Nat.add_comm, Nat.mul_left_comm], Nat.add_mul_mod_self_left]
theorem digs_first {n : Nat} (hn : 0 < n) (L a b : Nat) (ha : a < n) (hb : b < n ^ L) : digs n (L + 1) (a * n ^ L + b) = (a : Int) :: digs n L b := by
  rw [digs, digs_split hn L L a b (Nat.le_refl _)]
  have h1 : (a * n ^ L + b) / n ^ L = a := by
    rw [show a * n ^ L + b = b + n ^ L * a by rw [Nat.add_comm, Nat.mul_comm], Nat.add_mul_div_left _ _ (Nat.pow_pos hn), Nat.div_eq_of_lt hb, Nat.zero_add]
  rw [h1, Nat.mod_eq_of_lt ha]
/-- the product of the weights of a sequence -/
def wt (ws s : List Int) : Int := s.foldl (fun p x => p * ws.getD x.toNat 0) 1
def bB : Nat → Int
  | 0 => 0
  | L + 1 => 72 * (bB L + 10000)
end Go.Proofs.Ytndhijckbponkaa

/- sums, powers and weights, both sides -/
namespace Go.Proofs.Ytndhijckbponkaa
open Go.RowKit

/-- the sum of a list -/
def sumW (l : List Int) : Int := sumTo (fun a => l.getD a 0) l.length
set_option maxRecDepth 100000 in
theorem total_any (A : Nat → Prop) (v : Value) (l : List Int) (w : World) (h : RI A w v l) (hb : ∀ j, j ≤ l.length → -1000000000 ≤ sumTo (fun a => l.getD a 0) j ∧ sumTo (fun a => l.getD a 0) j ≤ 1000000000) :
    Calls Try.prog 55 #[v] w fun e w' => e = .returned (.int .i64 (sumW l)) ∧ w = w' := by
  obtain ⟨a, cap, rfl, hcap, hmax, hlen, _, hc⟩ := h
  have HB := Lib.hid hb
  clear hb
  go_enter Try.func55, Try.ntmps55
  go_wp2
  go_loop [3, 8] (fun s i => ∃ k : Nat, k ≤ l.length ∧ i = .int .i64 k ∧ s = .int .i64 (sumTo (fun a => l.getD a 0) k)) (fun _ i => l.length - (intOf i).toNat)
  case atStart => exact ⟨0, Nat.zero_le _, rfl, rfl⟩
  case round =>
    obtain ⟨k, hk, rfl, rfl⟩ := hrel
    by_cases hlt : k < l.length
    · obtain ⟨b, off, rfl, _, _, hcell⟩ := hc (by intro e; simp [e] at hlt)
      have hck := hcell k hlt
      have hs : sumTo (fun a => l.getD a 0) (k + 1) = sumTo (fun a => l.getD a 0) k + l.getD k 0 := rfl
      have hb1 := HB.out (k + 1) hlt
      obtain ⟨x, hx⟩ : ∃ x, l.getD k 0 = x := ⟨_, rfl⟩
      rw [hx] at hck hs
      obtain ⟨s, hss⟩ : ∃ s, sumTo (fun a => l.getD a 0) k = s := ⟨_, rfl⟩
      rw [hss] at hs ⊢
      have hw : IntKind.i64.wrap (s + x) = s + x := IntWalk.i64_in _ (by omega)
      have hkw : IntKind.i64.wrap ((k : Int) + 1) = (k : Int) + 1 := IntWalk.i64_in _ (by omega)
      have hk0 : (0 : Int) ≤ (k : Int) := Int.natCast_nonneg _
      have hk1 : (k : Int) < (l.length : Int) := by omega
      have HS := Lib.hid hs
      clear hcell hc hx hss hs hb1
      go_wp2
      go_round
      case rel => exact ⟨k + 1, hlt, by go_num, by rw [HS.out]⟩
      case measure => simp [intOf]; omega
    · have hkl : k = l.length := by omega
      subst hkl
      clear hc
      go_wp2
      go_ret
      exact ⟨rfl, rfl⟩

/-- numbers are weights from a least one on -/
def wgB (low : Int) (l : List Int) : Bool := l.all fun x => inB x low 9
theorem wgB_snoc (low : Int) (l : List Int) (k : Nat) (h : k < l.length) : wgB low (l.take (k + 1)) = (wgB low (l.take k) && inB (l.getD k 0) low 9) := by
  have e : l.getD k 0 = l[k] := by rw [List.getD_eq_getElem?_getD, List.getElem?_eq_getElem h]; rfl
  rw [take_snoc l k h, wgB, List.all_append, e]
  simp [wgB]
theorem wgB_stop (low : Int) (l : List Int) (k : Nat) (h : k < l.length) (hk : inB (l.getD k 0) low 9 = false) : wgB low l = false := by
  rw [wgB, List.all_eq_false]
  exact ⟨_, getD_mem h, by rw [hk]; decide⟩
theorem wgB_mem {low : Int} {l : List Int} (h : wgB low l = true) : ∀ x ∈ l, low ≤ x ∧ x ≤ 9 := fun x hx => inB_iff.1 (List.all_eq_true.1 h x hx)
set_option maxRecDepth 100000 in
theorem l11Weights_any (A : Nat → Prop) (v : Value) (l : List Int) (low : Int) (w : World) (h : RI A w v l) :
    Calls Try.prog 60 #[v, .int .i64 low] w fun e w' => e = .returned (.bool (wgB low l)) ∧ w = w' := by
  obtain ⟨a, cap, rfl, hcap, hmax, hlen, _, hc⟩ := h
  go_enter Try.func60, Try.ntmps60
  go_wp2
  go_loop [4, 5] (fun r i => ∃ k : Nat, k ≤ l.length ∧ i = .int .i64 k ∧ r = .bool false ∧ wgB low (l.take k) = true) (fun _ i => l.length - (intOf i).toNat)
  case atStart => exact ⟨0, Nat.zero_le _, rfl, rfl, rfl⟩
  case round =>
    obtain ⟨k, hk, rfl, rfl, hh⟩ := hrel
    have H := Lib.hid hh
    clear hh
    by_cases hlt : k < l.length
    · obtain ⟨b, off, rfl, _, _, hcell⟩ := hc (by intro e; simp [e] at hlt)
      have hck := hcell k hlt
      have hs := Lib.hid (wgB_snoc low l k hlt)
      have ht := Lib.hid (wgB_stop low l k hlt)
      obtain ⟨x, hx⟩ : ∃ x, l.getD k 0 = x := ⟨_, rfl⟩
      rw [hx] at hck hs ht
      clear hx hcell
      go_wp2_with (go_at_call 62; refine (l1In_any _ _ _ _).mono ?_; rintro e w' ⟨rfl, rfl⟩)
      · go_ret
        have h : (!inB x low 9) = true := by assumption
        have h : inB x low 9 = false := by simpa using h
        exact ⟨ret_bool (ht.out h).symm, rfl⟩
      · have h : (!inB x low 9) = false := by assumption
        have h : inB x low 9 = true := by simpa using h
        go_round
        case rel => exact ⟨k + 1, by omega, by go_num, rfl, by rw [hs.out, H.out, h]; rfl⟩
        case measure => simp [intOf]; omega
    · have hkl : k = l.length := by omega
      go_wp2
      go_ret
      subst hkl
      exact ⟨ret_bool (by have := H.out; rw [List.take_length] at this; exact this.symm), rfl⟩

theorem cfWeights (x : Int) (c0 : Value) (w : World) : (callFunc 91 #[.int .i64 x, c0]).run Try.prog w = .ok (.enter 91 #[.int .i64 x, c0]) w := by kernel_rfl
theorem areWeights1_any (x n : Int) (b : Nat) (w : World) (h : w.cell? ⟨b, 0, none⟩ = some (.int .i64 n)) :
    Calls Try.prog 91 #[.int .i64 x, .pointer (some ⟨b, 0, none⟩)] w fun e w' => e = .returned (.bool (!inB x n 9)) ∧ w = w' := by
  go_enter Try.func91, Try.ntmps91
  go_wp2_with (go_at_call 53; refine (within_any _ _ _ _).mono ?_; rintro e w' ⟨rfl, rfl⟩)
  go_ret
  exact ⟨rfl, rfl⟩

theorem wgB_any (n : Int) (l : List Int) : (!l.any fun x => !inB x n 9) = wgB n l := by
  unfold wgB
  induction l with
  | nil => rfl
  | cons a l ih => simp only [List.any_cons, List.all_cons, Bool.not_or, Bool.not_not, ih]
theorem areWeights_any (A : Nat → Prop) (v : Value) (l : List Int) (n : Int) (w : World) (h : RI A w v l) :
    Calls Try.prog 54 #[v, .int .i64 n] w (Ret fun v' w' => v' = .bool (wgB n l) ∧ Chg No w w') := by
  have H := Lib.hid (wgB_any n l)
  go_enter Try.func54, Try.ntmps54
  go_wp2_with fail
  refine (ContainsFunc_any A v l _ (h.keep ((Chg.refl No w).alloc _)) _ _ (fun x => !inB x n 9) (fun x w => cfWeights x _ w) (fun x _ => areWeights1_any x n _ _ (by rw [World.cell?_alloc_new]; rfl))).mono ?_
  rintro e w1 ⟨rfl, rfl⟩
  go_wp2_with fail
  go_ret
  exact ⟨_, rfl, by rw [H.out]; rfl, (Chg.refl No w).alloc _⟩
end Go.Proofs.Ytndhijckbponkaa
