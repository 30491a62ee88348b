import Derived.Test.YtndhijckbponkaaGreatDoorA
import Derived.Lib.IndexMore
import Derived.Lib.ItoaNum
namespace Go.Proofs.YtndhijckbponkaaGreatDoor
open Go.RowKit

set_option maxHeartbeats 400000 in
theorem within_any (x a b : Int) (w : World) :
    Calls Tryz.prog 45 #[.int .i64 x, .int .i64 a, .int .i64 b] w fun e w' => e = .returned (.bool (inB x a b)) ∧ w = w' := by
  by_cases h1 : a ≤ x <;> by_cases h2 : x ≤ b
  all_goals
    have H : Hid (inB x a b = (decide (a ≤ x) && decide (x ≤ b))) := rfl
    go_enter Tryz.func45, Tryz.ntmps45
    go_wp2
    go_ret
    exact ⟨ret_bool (by rw [H.out]; simp [h1, h2]), rfl⟩

set_option maxHeartbeats 400000 in
theorem isItems_any (x : Int) (w : World) :
    Calls Tryz.prog 53 #[.int .i64 x] w fun e w' => e = .returned (.bool (inB x 1 8)) ∧ w = w' := by
  go_enter Tryz.func53, Tryz.ntmps53
  go_wp2_with (go_at_call 45; refine (within_any _ _ _ _).mono ?_; rintro e w' ⟨rfl, rfl⟩)
  go_ret
  exact ⟨rfl, rfl⟩

set_option maxHeartbeats 400000 in
theorem isPolicy_any (x : Int) (w : World) :
    Calls Tryz.prog 57 #[.int .i64 x] w fun e w' => e = .returned (.bool (inB x 1 7)) ∧ w = w' := by
  go_enter Tryz.func57, Tryz.ntmps57
  go_wp2_with (go_at_call 45; refine (within_any _ _ _ _).mono ?_; rintro e w' ⟨rfl, rfl⟩)
  go_ret
  exact ⟨rfl, rfl⟩

set_option maxHeartbeats 400000 in
theorem isSize_any (x : Int) (w : World) :
    Calls Tryz.prog 46 #[.int .i64 x] w fun e w' => e = .returned (.bool (inB x 1 6)) ∧ w = w' := by
  go_enter Tryz.func46, Tryz.ntmps46
  go_wp2_with (go_at_call 45; refine (within_any _ _ _ _).mono ?_; rintro e w' ⟨rfl, rfl⟩)
  go_ret
  exact ⟨rfl, rfl⟩

set_option maxRecDepth 100000 in
set_option maxHeartbeats 400000 in
theorem IndexFunc_any (A : Nat → Prop) (v : Value) (l : List Int) (w : World) (h : RI A w v l) (f : FuncId) (c0 : Value) (p : Int → Bool)
    (hcf : ∀ x (w : World), (callFunc f #[.int .i64 x, c0]).run Tryz.prog w = .ok (.enter f #[.int .i64 x, c0]) w)
    (hp : ∀ x, x ∈ l → Calls Tryz.prog f #[.int .i64 x, c0] w fun e w' => e = .returned (.bool (p x)) ∧ w = w') :
    Calls Tryz.prog 169 #[v, .func (.func f) #[] #[c0]] w fun e w' => e = .returned (.int .i64 (idxF l p)) ∧ w = w' := by
  obtain ⟨a, cap, rfl, hcap, hmax, hlen, _, hc⟩ := h
  have HP := Lib.hid hp
  clear hp
  go_enter Tryz.func169, Tryz.ntmps169
  go_wp2
  go_loop [4, 8] (fun r i => ∃ k : Nat, k ≤ l.length ∧ i = .int .i64 k ∧ r = .int .i64 0 ∧ (l.take k).any p = false) (fun _ i => l.length - (intOf i).toNat)
  case atStart => exact ⟨0, Nat.zero_le _, rfl, rfl, rfl⟩
  case round =>
    obtain ⟨k, hk, rfl, rfl, hh⟩ := hrel
    have H := Lib.hid hh
    clear hh
    by_cases hlt : k < l.length
    · obtain ⟨b, off, rfl, _, _, hcell⟩ := hc (by intro e; simp [e] at hlt)
      have hck := hcell k hlt
      have hs := Lib.hid (any_snoc l p k hlt)
      have ht := Lib.hid (idxF_hit l p k hlt)
      have hm : l[k] ∈ l := List.getElem_mem hlt
      go_wp2_with fail
      refine (HP.out _ hm).mono ?_
      rintro e w' ⟨rfl, rfl⟩
      go_wp2
      · go_ret
        have h : p l[k] = true := by assumption
        exact ⟨ret_int (ht.out h H.out).symm, rfl⟩
      · have h : p l[k] = false := by assumption
        go_round
        case rel => exact ⟨k + 1, by omega, by go_num, rfl, by rw [hs.out, H.out, h]; rfl⟩
        case measure => simp [intOf]; omega
    · have hkl : k = l.length := by omega
      go_wp2
      go_ret
      subst hkl
      exact ⟨ret_int (by have := H.out; rw [List.take_length] at this; exact (idxF_none l p this).symm), rfl⟩

set_option maxRecDepth 100000 in
set_option maxHeartbeats 400000 in
theorem ContainsFunc_any (A : Nat → Prop) (v : Value) (l : List Int) (w : World) (h : RI A w v l) (f : FuncId) (c0 : Value) (p : Int → Bool)
    (hcf : ∀ x (w : World), (callFunc f #[.int .i64 x, c0]).run Tryz.prog w = .ok (.enter f #[.int .i64 x, c0]) w)
    (hp : ∀ x, x ∈ l → Calls Tryz.prog f #[.int .i64 x, c0] w fun e w' => e = .returned (.bool (p x)) ∧ w = w') :
    Calls Tryz.prog 139 #[v, .func (.func f) #[] #[c0]] w fun e w' => e = .returned (.bool (l.any p)) ∧ w = w' := by
  have hge := idxF_ge l p
  have H := Lib.hid hge
  have HP := Lib.hid hp
  clear hge hp
  have HC := Lib.hid hcf
  clear hcf
  go_enter Tryz.func139, Tryz.ntmps139
  go_wp2_with fail
  refine (IndexFunc_any A v l w h f c0 p HC.out HP.out).mono ?_
  rintro e w' ⟨rfl, rfl⟩
  go_wp2_with fail
  go_ret
  exact ⟨ret_bool H.out, rfl⟩

theorem cfBelow (x : Int) (c0 : Value) (w : World) : (callFunc 140 #[.int .i64 x, c0]).run Tryz.prog w = .ok (.enter 140 #[.int .i64 x, c0]) w := by kernel_rfl
set_option maxHeartbeats 400000 in
theorem areBelow1_any (x n : Int) (b : Nat) (w : World) (h : w.cell? ⟨b, 0, none⟩ = some (.int .i64 n)) (hn : -9223372036854775807 ≤ n) (hn' : n ≤ 9223372036854775807) :
    Calls Tryz.prog 140 #[.int .i64 x, .pointer (some ⟨b, 0, none⟩)] w fun e w' => e = .returned (.bool (!inB x 0 (n - 1))) ∧ w = w' := by
  go_enter Tryz.func140, Tryz.ntmps140
  go_wp2_with (go_at_call 45; refine (within_any _ _ _ _).mono ?_; rintro e w' ⟨rfl, rfl⟩)
  go_ret
  exact ⟨rfl, rfl⟩

theorem belowB_any (n : Int) (l : List Int) : (!l.any fun x => !inB x 0 (n - 1)) = belowB n l := by
  unfold belowB
  induction l with
  | nil => rfl
  | cons a l ih => simp only [List.any_cons, List.all_cons, Bool.not_or, Bool.not_not, ih]
set_option maxHeartbeats 400000 in
theorem areBelow_any (A : Nat → Prop) (v : Value) (l : List Int) (n : Int) (w : World) (h : RI A w v l) (hn : -9223372036854775807 ≤ n) (hn' : n ≤ 9223372036854775807) :
    Calls Tryz.prog 96 #[.int .i64 n, v] w (Ret fun v' w' => v' = .bool (belowB n l) ∧ Chg No w w') := by
  have H := Lib.hid (belowB_any n l)
  go_enter Tryz.func96, Tryz.ntmps96
  go_wp2_with fail
  refine (ContainsFunc_any A v l _ (h.keep ((Chg.refl No w).alloc _)) _ _ (fun x => !inB x 0 (n - 1)) (fun x w => cfBelow x _ w) (fun x _ => areBelow1_any x n _ _ (by rw [World.cell?_alloc_new]; rfl) hn hn')).mono ?_
  rintro e w1 ⟨rfl, rfl⟩
  go_wp2_with fail
  go_ret
  exact ⟨_, rfl, by rw [H.out]; rfl, (Chg.refl No w).alloc _⟩

set_option maxHeartbeats 400000 in
theorem IsRequests_any (A : Nat → Prop) (v : Value) (l : List Int) (n : Int) (w : World) (h : RI A w v l) :
    Calls Tryz.prog 56 #[.int .i64 n, v] w (Ret fun v' w' => v' = .bool (inB n 1 8 && decide (l.length ≤ 60) && belowB n l) ∧ Chg No w w') := by
  have h' := h
  obtain ⟨a, cap, rfl, hcap, hmax, hlen, _, hc⟩ := h
  clear hc
  go_enter Tryz.func56, Tryz.ntmps56
  by_cases h8 : inB n 1 8 = true
  · have hb := inB_iff.1 h8
    by_cases h60 : l.length ≤ 60
    · go_wp2_with (first | (go_at_call 53; refine (isItems_any _ _).mono ?_; rintro e w' ⟨rfl, rfl⟩) | (go_at_call 96; refine (areBelow_any _ _ _ _ _ h' (by omega) (by omega)).mono ?_; rintro e w' ⟨v', rfl, rfl, hch⟩))
      go_ret
      exact ⟨_, rfl, by simp [*], hch⟩
    · go_wp2_with (first | (go_at_call 53; refine (isItems_any _ _).mono ?_; rintro e w' ⟨rfl, rfl⟩))
      go_ret
      exact ⟨_, rfl, by simp [*], Chg.refl _ _⟩
  · have h8 : inB n 1 8 = false := by simpa using h8
    go_wp2_with (first | (go_at_call 53; refine (isItems_any _ _).mono ?_; rintro e w' ⟨rfl, rfl⟩))
    go_ret
    exact ⟨_, rfl, by simp [*], Chg.refl _ _⟩

set_option maxHeartbeats 400000 in
theorem Index_any (A : Nat → Prop) (v : Value) (l : List Int) (n : Int) (w : World) (h : RI A w v l) :
    Calls Tryz.prog 141 #[v, .int .i64 n] w fun e w' => e = .returned (.int .i64 (atI l n)) ∧ w = w' := by
  obtain ⟨a, cap, rfl, hcap, hmax, hlen, _, hc⟩ := h
  go_enter Tryz.func141, Tryz.ntmps141
  go_wp2
  go_loop [4, 8] (fun r i => ∃ k : Nat, k ≤ l.length ∧ i = .int .i64 k ∧ r = .int .i64 0 ∧ hasB (l.take k) n = false) (fun _ i => l.length - (intOf i).toNat)
  case atStart => exact ⟨0, Nat.zero_le _, rfl, rfl, rfl⟩
  case round =>
    obtain ⟨k, hk, rfl, rfl, hh⟩ := hrel
    have H := Lib.hid hh
    clear hh
    by_cases hlt : k < l.length
    · obtain ⟨b, off, rfl, _, _, hcell⟩ := hc (by intro e; simp [e] at hlt)
      have hck := hcell k hlt
      have hs := Lib.hid (hasB_snoc l n k hlt)
      have ht := Lib.hid (atI_hit l n k hlt)
      go_wp2
      · go_ret
        have h : (n == l[k]) = true := by assumption
        exact ⟨ret_int (ht.out (beq_iff_eq.1 h).symm H.out).symm, rfl⟩
      · have h : (n == l[k]) = false := by assumption
        go_round
        case rel => exact ⟨k + 1, by omega, by go_num, rfl, by rw [hs.out, H.out, BEq.comm, h]; rfl⟩
        case measure => simp [intOf]; omega
    · have hkl : k = l.length := by omega
      go_wp2
      go_ret
      subst hkl
      exact ⟨ret_int (by have := H.out; rw [List.take_length] at this; exact (atI_none l n this).symm), rfl⟩
end Go.Proofs.YtndhijckbponkaaGreatDoor

/- the log: bytes, checksums, lines and records: plain -/
namespace Go.Proofs.YtndhijckbponkaaGreatDoor

/-- what stands before the first x, and behind it -/
def preB (x : UInt8) (s : List UInt8) : List UInt8 := s.takeWhile (· != x)
def postB (x : UInt8) (s : List UInt8) : List UInt8 := (s.dropWhile (· != x)).drop 1
theorem preB_cons (x b : UInt8) (s : List UInt8) : preB x (b :: s) = if b = x then [] else b :: preB x s := by
  unfold preB
  by_cases h : b = x
  · subst h; simp
  · simp [h]
theorem postB_cons (x b : UInt8) (s : List UInt8) : postB x (b :: s) = if b = x then s else postB x s := by
  unfold postB
  by_cases h : b = x
  · subst h; simp
  · simp [h]
theorem pre_post (x : UInt8) : ∀ s : List UInt8, x ∈ s → preB x s ++ x :: postB x s = s
  | [], h => by simp at h
  | b :: s, h => by
    rw [preB_cons, postB_cons]
    by_cases e : b = x
    · simp [e]
    · rw [if_neg e, if_neg e]
      have h' : x ∈ s := by
        rcases List.mem_cons.1 h with h | h
        · exact absurd h.symm e
        · exact h
      rw [List.cons_append, pre_post x s h']
theorem pre_all (x : UInt8) : ∀ s : List UInt8, x ∉ s → preB x s = s ∧ postB x s = []
  | [], _ => ⟨rfl, rfl⟩
  | b :: s, h => by
    rw [List.mem_cons, not_or] at h
    have e : ¬ b = x := fun e => h.1 e.symm
    obtain ⟨h1, h2⟩ := pre_all x s h.2
    rw [preB_cons, postB_cons, if_neg e, if_neg e, h1, h2]
    exact ⟨rfl, rfl⟩
theorem pre_join (x : UInt8) : ∀ a b : List UInt8, x ∉ a → preB x (a ++ x :: b) = a ∧ postB x (a ++ x :: b) = b
  | [], b, _ => by rw [List.nil_append, preB_cons, postB_cons]; simp
  | c :: a, b, h => by
    rw [List.mem_cons, not_or] at h
    have e : ¬ c = x := fun e => h.1 e.symm
    obtain ⟨h1, h2⟩ := pre_join x a b h.2
    rw [List.cons_append, preB_cons, postB_cons, if_neg e, if_neg e, h1, h2]
    exact ⟨rfl, rfl⟩
theorem pre_le (x : UInt8) (s : List UInt8) : (preB x s).length ≤ s.length := by
  by_cases h : x ∈ s
  · have e := congrArg List.length (pre_post x s h)
    simp only [List.length_append, List.length_cons] at e
    omega
  · rw [(pre_all x s h).1]; exact Nat.le_refl _
theorem post_drop (x : UInt8) (s : List UInt8) (h : x ∈ s) : postB x s = s.drop ((preB x s).length + 1) := by
  have e : s.drop ((preB x s).length + 1) = (preB x s ++ x :: postB x s).drop ((preB x s).length + 1) := by rw [pre_post x s h]
  rw [e, List.drop_append]
  simp
theorem pre_take (x : UInt8) (s : List UInt8) : preB x s = s.take (preB x s).length := by
  by_cases h : x ∈ s
  · have e : s.take (preB x s).length = (preB x s ++ x :: postB x s).take (preB x s).length := by rw [pre_post x s h]
    rw [e, List.take_left]
  · rw [(pre_all x s h).1, List.take_length]

/-- the library's index and cut at one byte -/
theorem index_one (x : UInt8) : ∀ s : List UInt8, Lib.index s [x] = if x ∈ s then ((preB x s).length : Int) else -1
  | [] => by simp [Lib.index]
  | b :: s => by
    unfold Lib.index
    rw [index_one x s, preB_cons]
    by_cases e : b = x
    · subst e; simp [List.isPrefixOf]
    · have e' : ¬ x = b := fun h => e h.symm
      have hp : ([x].isPrefixOf (b :: s)) = false := by simp [List.isPrefixOf, e']
      rw [hp, if_neg e]
      by_cases h : x ∈ s
      · rw [if_pos h, if_pos (List.mem_cons_of_mem _ h)]
        have : (((preB x s).length : Int) == -1) = false := by rw [beq_eq_false_iff_ne]; omega
        rw [this]
        simp
      · have h' : x ∉ b :: s := by rw [List.mem_cons, not_or]; exact ⟨e', h⟩
        rw [if_neg h, if_neg h']
        rfl
theorem cut_one (x : UInt8) (s : List UInt8) : Lib.cut s [x] = (preB x s, postB x s, decide (x ∈ s)) := by
  unfold Lib.cut
  rw [index_one]
  by_cases h : x ∈ s
  · rw [if_pos h, if_pos (by omega)]
    have e1 : ((preB x s).length : Int).toNat = (preB x s).length := by omega
    rw [e1, ← pre_take]
    have e2 : s.drop ((preB x s).length + [x].length) = postB x s := (post_drop x s h).symm
    rw [e2]
    simp [h]
  · rw [if_neg h, if_neg (by decide), (pre_all x s h).1, (pre_all x s h).2]
    simp [h]
/-- digits -/
theorem dec_digit : ∀ (u : Nat) (b : UInt8), b ∈ Lib.decDigits u → 48 ≤ b.toNat ∧ b.toNat ≤ 57 := by
  intro u
  induction u using Nat.strongRecOn with
  | _ u ih =>
    intro b hb
    have hd : ∀ d, d < 10 → (UInt8.ofNat (48 + d)).toNat = 48 + d := by
      intro d hd
      rw [UInt8.toNat_ofNat']
      omega
    by_cases h : u < 10
    · rw [Lib.decDigits, dif_pos h, List.mem_singleton] at hb
      rw [hb, hd u h]
      omega
    · rw [Lib.decDigits, dif_neg h, List.mem_append, List.mem_singleton] at hb
      rcases hb with hb | hb
      · exact ih (u / 10) (by omega) b hb
      · rw [hb, hd (u % 10) (by omega)]
        omega
theorem dec_len : ∀ (n u : Nat), u < 10 ^ (n + 1) → (Lib.decDigits u).length ≤ n + 1
  | 0, u, h => by
    have h' : u < 10 := by simpa using h
    rw [Lib.decDigits, dif_pos h']
    exact Nat.le_refl _
  | n + 1, u, h => by
    by_cases h' : u < 10
    · rw [Lib.decDigits, dif_pos h']
      simp
    · rw [Lib.decDigits, dif_neg h', List.length_append, List.length_singleton]
      have := dec_len n (u / 10) (by rw [Nat.pow_succ] at h; omega)
      omega
theorem dec_pos (u : Nat) : 1 ≤ (Lib.decDigits u).length := by
  by_cases h' : u < 10
  · rw [Lib.decDigits, dif_pos h']; exact Nat.le_refl _
  · rw [Lib.decDigits, dif_neg h', List.length_append, List.length_singleton]; omega
end Go.Proofs.YtndhijckbponkaaGreatDoor

/- bytes: the checksum, bytes that stand, bytes that may stand -/
namespace Go.Proofs.YtndhijckbponkaaGreatDoor
open Go.RowKit

theorem byteLt (b : UInt8) : (b.toNat : Int) ≤ 255 := by have := b.toNat_lt; omega
theorem vint_eq {k : IntKind} {a b : Int} (h : a = b) : Value.int k a = Value.int k b := by rw [h]
/-- whether a byte stands in bytes; whether all may stand in a record -/
def hasL (b : UInt8) (l : List UInt8) : Bool := decide (b ∈ l)
end Go.Proofs.YtndhijckbponkaaGreatDoor
