import Derived.Test.YtdgcohoneijleaaGreatDoorUc
import Derived.Test.YtdgcohoneijleaaGreatDoorBase
import Derived.WalkKit
import Derived.ProofKit
import Derived.OpenShut
import Derived.ShutString
import Derived.ChangeOld
import Derived.Below
import Derived.ChangeSlices
import Derived.Lib.IndexMore
import Derived.Lib.ItoaNum
import Derived.Test.YtdgcohoneijleaaGreatDoorPkX3
import Derived.Test.YtdgcohoneijleaaGreatDoorPkX1
import Derived.Test.YtdgcohoneijleaaGreatDoorPkX8
import Derived.Lib.AppendIntMem
namespace Go.Proofs.YtdgcohoneijleaaGreatDoor
open Go.RowKit Go.ChangeShapes Go.WideShapes Go.ChangeAt
section
variable {H : Type} {enc : TypeId × Value → H} {W : World} {spare : Nat → Bool} {held : Bool}
theorem open_code {fuel : Nat} {a0 : Option Addr} {n0 c0 : Nat} {y : DataW H × List MemPlace} (hsp : ∀ b, spare b = true) (h : DataW.trod enc Tryz.prog W 0 spare held fuel 39 [.slice a0 n0 c0] = some y) : Code W (.slice a0 n0 c0) n0 := by
 rcases open_ints Tryz.underlying39 Tryz.underlying5 (by kernel_rfl) h with ⟨hcs, _⟩ | ⟨x', len, cap, zs, hcs, _, hl, hm, hz, _, hcell, hwf⟩
 ·simp only [List.cons.injEq, and_true, Value.slice.injEq] at hcs
  obtain ⟨rfl, rfl, rfl⟩ := hcs
  exact ⟨[], rfl, ⟨none, 0, rfl, by omega, by omega, rfl, fun _ => rfl, fun h => absurd h (by omega)⟩, fun x hx => by cases hx⟩
 ·simp only [List.cons.injEq, and_true, Value.slice.injEq] at hcs
  obtain ⟨rfl, rfl, rfl⟩ := hcs
  rw [hsp, if_pos rfl] at hz
  have hm' : c0 ≤ 9223372036854775807 := by simpa [maxLen] using hm
  have hlen : (zs.take n0).length = n0 := by rw [List.length_take]; omega
  refine ⟨zs.take n0, hlen, ⟨some x', c0, rfl, hl, hm', by rw [List.length_map, hlen]; omega, (fun e => by cases e), fun hpos => ?_⟩, fun x hx => ?_⟩
  ·obtain ⟨b, off, spot⟩ := x'
   have g0 := hcell 0 (by omega)
   have hspot : spot = none := by simpa [Addr.add] using World.cell?_spot g0
   subst hspot
   refine ⟨b, off, rfl, fun e => e, World.block_lt_of_cell? W _ g0, fun i hi => ?_⟩
   rw [List.length_map, hlen] at hi
   have := hcell i (by omega)
   have e : (⟨b, off, none⟩ : Addr).add i = ⟨b, off + i, none⟩ := by unfold Addr.add; split <;> simp_all
   rw [e] at this
   have hil : i < zs.length := by omega
   rw [this]
   simp [List.getD_eq_getElem?_getD, List.getElem?_take_of_lt hi, hil]
  ·have := hwf x (List.mem_of_mem_take hx)
   unfold Lit.wf at this
   simp only [Bool.and_eq_true, decide_eq_true_eq] at this
   have h1 : IntKind.u8.min = 0 := rfl
   have h2 : IntKind.u8.max = 255 := rfl
   omega
end
end Go.Proofs.YtdgcohoneijleaaGreatDoor
namespace Go.Proofs.YtdgcohoneijleaaGreatDoor
def preB (x : UInt8) (s : List UInt8) : List UInt8 := s.takeWhile (· != x)
def postB (x : UInt8) (s : List UInt8) : List UInt8 := (s.dropWhile (· != x)).drop 1
theorem preB_cons (x b : UInt8) (s : List UInt8) : preB x (b :: s) = if b = x then [] else b :: preB x s := by
 unfold preB
 by_cases h : b = x
 ·subst h; simp
 ·simp [h]
theorem postB_cons (x b : UInt8) (s : List UInt8) : postB x (b :: s) = if b = x then s else postB x s := by
 unfold postB
 by_cases h : b = x
 ·subst h; simp
 ·simp [h]
theorem pre_post (x : UInt8) : ∀ s : List UInt8, x ∈ s → preB x s ++ x :: postB x s = s
 | [], h => by simp at h
 | b :: s, h => by
  rw [preB_cons, postB_cons]
  by_cases e : b = x
  ·simp [e]
  ·rw [if_neg e, if_neg e]
   have h' : x ∈ s := by
    rcases List.mem_cons.1 h with h | h
    ·exact absurd h.symm e
    ·exact h
   rw [List.cons_append, pre_post x s h']
theorem pre_all (x : UInt8) : ∀ s : List UInt8, x ∉ s → preB x s = s ∧ postB x s = []
 | [], _ => ⟨rfl, rfl⟩
 | b :: s, h => by
  rw [List.mem_cons, not_or] at h
  have e : ¬ b = x := fun e => h.1 e.symm
  obtain ⟨h1, h2⟩ := pre_all x s h.2
  rw [preB_cons, postB_cons, if_neg e, if_neg e, h1, h2]
  exact ⟨rfl, rfl⟩
theorem pre_join (x : UInt8) : ∀ a b : List UInt8, x ∉ a → preB x (a ++ x :: b) = a ∧ postB x (a ++ x :: b) = b
 | [], b, _ => by rw [List.nil_append, preB_cons, postB_cons]; simp
 | c :: a, b, h => by
  rw [List.mem_cons, not_or] at h
  have e : ¬ c = x := fun e => h.1 e.symm
  obtain ⟨h1, h2⟩ := pre_join x a b h.2
  rw [List.cons_append, preB_cons, postB_cons, if_neg e, if_neg e, h1, h2]
  exact ⟨rfl, rfl⟩
theorem pre_le (x : UInt8) (s : List UInt8) : (preB x s).length ≤ s.length := by
 by_cases h : x ∈ s
 ·have e := congrArg List.length (pre_post x s h)
  simp only [List.length_append, List.length_cons] at e
  omega
 ·rw [(pre_all x s h).1]; exact Nat.le_refl _
theorem post_drop (x : UInt8) (s : List UInt8) (h : x ∈ s) : postB x s = s.drop ((preB x s).length + 1) := by
 have e : s.drop ((preB x s).length + 1) = (preB x s ++ x :: postB x s).drop ((preB x s).length + 1) := by rw [pre_post x s h]
 rw [e, List.drop_append]
 simp
theorem pre_take (x : UInt8) (s : List UInt8) : preB x s = s.take (preB x s).length := by
 by_cases h : x ∈ s
 ·have e : s.take (preB x s).length = (preB x s ++ x :: postB x s).take (preB x s).length := by rw [pre_post x s h]
  rw [e, List.take_left]
 ·rw [(pre_all x s h).1, List.take_length]
theorem index_one (x : UInt8) : ∀ s : List UInt8, Lib.index s [x] = if x ∈ s then ((preB x s).length : Int) else -1
 | [] => by simp [Lib.index]
 | b :: s => by
  unfold Lib.index
  rw [index_one x s, preB_cons]
  by_cases e : b = x
  ·subst e; simp [List.isPrefixOf]
  ·have e' : ¬ x = b := fun h => e h.symm
   have hp : ([x].isPrefixOf (b :: s)) = false := by simp [List.isPrefixOf, e']
   rw [hp, if_neg e]
   by_cases h : x ∈ s
   ·rw [if_pos h, if_pos (List.mem_cons_of_mem _ h)]
    have : (((preB x s).length : Int) == -1) = false := by rw [beq_eq_false_iff_ne]; omega
    rw [this]
    simp
   ·have h' : x ∉ b :: s := by rw [List.mem_cons, not_or]; exact ⟨e', h⟩
    rw [if_neg h, if_neg h']
    rfl
theorem cut_one (x : UInt8) (s : List UInt8) : Lib.cut s [x] = (preB x s, postB x s, decide (x ∈ s)) := by
 unfold Lib.cut
 rw [index_one]
 by_cases h : x ∈ s
 ·rw [if_pos h, if_pos (by omega)]
  have e1 : ((preB x s).length : Int).toNat = (preB x s).length := by omega
  rw [e1, ← pre_take]
  have e2 : s.drop ((preB x s).length + [x].length) = postB x s := (post_drop x s h).symm
  rw [e2]
  simp [h]
 ·rw [if_neg h, if_neg (by decide), (pre_all x s h).1, (pre_all x s h).2]
  simp [h]
theorem dec_digit : ∀ (u : Nat) (b : UInt8), b ∈ Lib.decDigits u → 48 ≤ b.toNat ∧ b.toNat ≤ 57 := by
 intro u
 induction u using Nat.strongRecOn with
 | _ u ih =>
  intro b hb
  have hd : ∀ d, d < 10 → (UInt8.ofNat (48 + d)).toNat = 48 + d := by
   intro d hd
   rw [UInt8.toNat_ofNat']
   omega
  by_cases h : u < 10
  ·rw [Lib.decDigits, dif_pos h, List.mem_singleton] at hb
   rw [hb, hd u h]
   omega
  ·rw [Lib.decDigits, dif_neg h, List.mem_append, List.mem_singleton] at hb
   rcases hb with hb | hb
   ·exact ih (u / 10) (by omega) b hb
   ·rw [hb, hd (u % 10) (by omega)]
    omega
theorem dec_len : ∀ (n u : Nat), u < 10 ^ (n + 1) → (Lib.decDigits u).length ≤ n + 1
 | 0, u, h => by
  have h' : u < 10 := by simpa using h
  rw [Lib.decDigits, dif_pos h']
  exact Nat.le_refl _
 | n + 1, u, h => by
  by_cases h' : u < 10
  ·rw [Lib.decDigits, dif_pos h']
   simp
  ·rw [Lib.decDigits, dif_neg h', List.length_append, List.length_singleton]
   have := dec_len n (u / 10) (by rw [Nat.pow_succ] at h; omega)
   omega
theorem dec_pos (u : Nat) : 1 ≤ (Lib.decDigits u).length := by
 by_cases h' : u < 10
 ·rw [Lib.decDigits, dif_pos h']; exact Nat.le_refl _
 ·rw [Lib.decDigits, dif_neg h', List.length_append, List.length_singleton]; omega
end Go.Proofs.YtdgcohoneijleaaGreatDoor
namespace Go.Proofs.YtdgcohoneijleaaGreatDoor
open Go.RowKit
theorem byteLt (b : UInt8) : (b.toNat : Int) ≤ 255 := by have := b.toNat_lt; omega
theorem vint_eq {k : IntKind} {a b : Int} (h : a = b) : Value.int k a = Value.int k b := by rw [h]
def hasL (b : UInt8) (l : List UInt8) : Bool := decide (b ∈ l)
end Go.Proofs.YtdgcohoneijleaaGreatDoor
namespace Go.Proofs.YtdgcohoneijleaaGreatDoor
open Go.RowKit
theorem digit_at (n : Nat) (h : n < 10) : (⟨#[48, 49, 50, 51, 52, 53, 54, 55, 56, 57]⟩ : ByteArray).extract n (n + 1) = ⟨[UInt8.ofNat (48 + n)].toArray⟩ := by
 have : n = 0 ∨ n = 1 ∨ n = 2 ∨ n = 3 ∨ n = 4 ∨ n = 5 ∨ n = 6 ∨ n = 7 ∨ n = 8 ∨ n = 9 := by omega
 rcases this with rfl | rfl | rfl | rfl | rfl | rfl | rfl | rfl | rfl | rfl <;> rfl
theorem cat_run {P : Program} (x y : List UInt8) (h : x.length + y.length ≤ 9223372036854775807) (w : World) : (Op.stringOp .add ⟨x.toArray⟩ ⟨y.toArray⟩).run P w = .ok (.string ⟨(x ++ y).toArray⟩) w := by
 rw [run_string_add_sum w _ _ (by simpa [ByteArray.size] using h), ByteArray.mk_append_mk]
theorem ret_str {a b : ByteArray} (h : a = b) : Ending.returned (.string a) = .returned (.string b) := by rw [h]
set_option maxRecDepth 100000 in
set_option maxHeartbeats 1000000 in
theorem l1Num_any : ∀ (n : Nat) (w : World), n ≤ 9223372036854775807 → Calls Tryz.prog 72 #[.int .i64 n] w fun e w' => e = .returned (.string ⟨(Lib.decDigits n).toArray⟩) ∧ ∃ m, w' = w.drewN m := by
 intro n
 induction n using Nat.strongRecOn with
 | _ n ih =>
  intro w hn
  have h0 : ¬ (n : Int) < 0 := by omega
  by_cases h : n < 10
  ·have h1 : (n : Int) < 10 := by omega
   have HD : Hid (Lib.decDigits n = [UInt8.ofNat (48 + n)]) := Lib.hid (by rw [Lib.decDigits, dif_pos h])
   have HE := Lib.hid (digit_at n h)
   clear ih
   go_enter Tryz.func72, Tryz.ntmps72
   go_wp2
   go_ret
   exact ⟨ret_str (by rw [HE.out, HD.out]), 0, rfl⟩
  ·have h1 : ¬ (n : Int) < 10 := by omega
   obtain ⟨D1, e1⟩ : ∃ D1, D1 = Lib.decDigits (n / 10) := ⟨_, rfl⟩
   obtain ⟨D2, e2⟩ : ∃ D2, D2 = [UInt8.ofNat (48 + n % 10)] := ⟨_, rfl⟩
   have HD : Hid (Lib.decDigits n = D1 ++ D2) := Lib.hid (by rw [Lib.decDigits, dif_neg h, e1, e2])
   have HE := digit_at (n % 10) (by omega)
   rw [← e2] at HE
   have IH : Hid (∀ W, Calls Tryz.prog 72 #[.int .i64 ((n : Int) / 10)] W fun e w' => e = .returned (.string ⟨D1.toArray⟩) ∧ ∃ m, w' = W.drewN m) := Lib.hid (fun W => by rw [e1]; exact ih (n / 10) (by omega) W (by omega))
   have hm0 : (0 : Int) ≤ (n : Int) % 10 := by omega
   have hm1 : (n : Int) % 10 < 10 := by omega
   have ht : Int.tmod (n : Int) 10 = (n : Int) % 10 := Int.tmod_eq_emod_of_nonneg (by omega)
   have hsl : ∀ W, (Instr.slice 9 (.string ⟨#[48, 49, 50, 51, 52, 53, 54, 55, 56, 57]⟩) (some (.int .i64 ((n : Int) % 10))) (some (.int .i64 ((n : Int) % 10 + 1))) none).run Tryz.prog W = .ok (.string ⟨D2.toArray⟩) W := fun W => by
    have e1 : ((n : Int) % 10).toNat = n % 10 := by omega
    have e2 : ((n : Int) % 10 + 1).toNat = n % 10 + 1 := by omega
    have e3 : ((⟨#[48, 49, 50, 51, 52, 53, 54, 55, 56, 57]⟩ : ByteArray).size : Int) = 10 := rfl
    rw [run_slice_string _ _ _ _ _ _ _ Tryz.underlying9 (by omega) (by omega) (by rw [e3]; omega), e1, e2, HE]
   have hadd := cat_run (P := Tryz.prog) D1 D2 (by
    have h2 := dec_len 19 (n / 10) (by omega)
    rw [e1, e2, List.length_singleton]; omega)
   have hw1 : IntKind.i64.wrap ((n : Int) / 10) = (n : Int) / 10 := IntWalk.i64_in _ (by omega)
   have hw2 : IntKind.i64.wrap ((n : Int) % 10) = (n : Int) % 10 := IntWalk.i64_in _ (by omega)
   have hw3 : IntKind.i64.wrap ((n : Int) % 10 + 1) = (n : Int) % 10 + 1 := IntWalk.i64_in _ (by omega)
   clear ih HE e1 e2
   go_enter Tryz.func72, Tryz.ntmps72
   go_wp2
   go_quiet ((go_at_call 72; exact Calls.quiet_of (IH.out _)))
   go_wp2
   go_ret
   exact ⟨ret_str (by rw [HD.out]), _, rfl⟩
theorem drewN_chg' (w : World) (n : Nat) : Chg No w (w.drewN n) := (Chg.refl No w).drewN n
theorem chg_grow' (w : World) (os : Array Obj) : Chg No w (Go.Sort.grow w os) :=
 ⟨rfl, rfl, rfl, by simp, fun k hk _ => by simp [Go.Sort.grow, Array.getElem?_append_left hk]⟩
structure Lay (w : World) : Prop where
 max : ∃ m, w.cell? ⟨0, 0, none⟩ = some (.int .i64 m)
 tab : Lib.TabIs Tryz.prog w "internal/strconv.uint64pow10" .u64 Lib.pow10Tab
theorem Lay.keep {w w' : World} (h : Lay w) (hc : Chg No w w') : Lay w' := by
 refine ⟨?_, (Lib.tabBelow_of_tabIs h.tab) w' hc.below⟩
 obtain ⟨m, hm⟩ := h.max
 have hb := World.block_lt_of_cell? w _ hm
 exact ⟨m, (hc.cellD 0 0 hb (fun e => e)).trans hm⟩
theorem dec_small (n : Nat) (hn : n < 100) (w : World) :
  Calls Tryz.prog 76 #[.int .i64 n] w fun e w' => e = .returned (.string ⟨(Lib.decDigits n).toArray⟩) ∧ w' = w := by
 go_enter Tryz.func76, Tryz.ntmps76
 go_wp2_with (go_at_call 122; refine (Tryz.strconv_Itoa_small n hn _).mono ?_; rintro e w' ⟨rfl, rfl⟩)
 go_ret
 exact ⟨rfl, rfl⟩
end Go.Proofs.YtdgcohoneijleaaGreatDoor
namespace Go.Proofs.YtdgcohoneijleaaGreatDoor
open Go.RowKit
def sv (l : List UInt8) : Value := .string ⟨l.toArray⟩
def rv (c r : List UInt8) : Value := .agg #[.string ⟨c.toArray⟩, .string ⟨r.toArray⟩]
end Go.Proofs.YtdgcohoneijleaaGreatDoor
namespace Go.Proofs.YtdgcohoneijleaaGreatDoor
open Go.RowKit
theorem cat_to {P : Program} {x y z : List UInt8} (hz : z = x ++ y) (h : z.length ≤ 9223372036854775807) (w : World) : (Op.stringOp .add ⟨x.toArray⟩ ⟨y.toArray⟩).run P w = .ok (.string ⟨z.toArray⟩) w := by
 rw [hz] at h ⊢
 rw [List.length_append] at h
 exact cat_run x y h w
end Go.Proofs.YtdgcohoneijleaaGreatDoor
namespace Go.Proofs.YtdgcohoneijleaaGreatDoor
open Go.RowKit
def cutV (x : UInt8) (l : List UInt8) : Value := .tuple #[.string ⟨(preB x l).toArray⟩, .string ⟨(postB x l).toArray⟩, .bool (hasL x l)]
theorem cut_any (x : UInt8) (l : List UInt8) (w : World) (hl : l.length ≤ 1073741824) (hw : Lay w) :
  Calls Tryz.prog 88 #[.string ⟨l.toArray⟩, .string ⟨#[x]⟩] w fun e w' => e = .returned (cutV x l) ∧ Chg No w w' := by
 obtain ⟨mx, hmx⟩ := hw.max
 refine (Tryz.strings_Cut ⟨l.toArray⟩ ⟨#[x]⟩ mx w (by simp [ByteArray.size]; omega) hmx).mono ?_
 rintro e w' ⟨rfl, n, rfl⟩
 refine ⟨?_, drewN_chg' w n⟩
 rw [show Lib.cut (ByteArray.mk l.toArray).data.toList (ByteArray.mk #[x]).data.toList = (preB x l, postB x l, decide (x ∈ l)) from cut_one x l]
 rfl
end Go.Proofs.YtdgcohoneijleaaGreatDoor
