import Derived.Test.YtndhijckbponkaaGreatDoorPkX1
import Derived.Test.YtndhijckbponkaaGreatDoorQv
import Derived.Test.YtndhijckbponkaaGreatDoorShelf
import Derived.Lib.AppendIntMem
import Derived.Test.YtndhijckbponkaaGreatDoorBase
/- numerals and sealed texts -/
namespace Go.Proofs.YtndhijckbponkaaGreatDoor
open Go.RowKit

theorem digit_at (n : Nat) (h : n < 10) : (⟨#[48, 49, 50, 51, 52, 53, 54, 55, 56, 57]⟩ : ByteArray).extract n (n + 1) = ⟨[UInt8.ofNat (48 + n)].toArray⟩ := by
  have : n = 0 ∨ n = 1 ∨ n = 2 ∨ n = 3 ∨ n = 4 ∨ n = 5 ∨ n = 6 ∨ n = 7 ∨ n = 8 ∨ n = 9 := by omega
  rcases this with rfl | rfl | rfl | rfl | rfl | rfl | rfl | rfl | rfl | rfl <;> rfl
theorem cat_run {P : Program} (x y : List UInt8) (h : x.length + y.length ≤ 9223372036854775807) (w : World) : (Op.stringOp .add ⟨x.toArray⟩ ⟨y.toArray⟩).run P w = .ok (.string ⟨(x ++ y).toArray⟩) w := by
  rw [run_string_add_sum w _ _ (by simpa [ByteArray.size] using h), ByteArray.mk_append_mk]
theorem ret_str {a b : ByteArray} (h : a = b) : Ending.returned (.string a) = .returned (.string b) := by rw [h]
set_option maxRecDepth 100000 in
set_option maxHeartbeats 1000000 in
theorem l1Num_any : ∀ (n : Nat) (w : World), n ≤ 9223372036854775807 → Calls Tryz.prog 72 #[.int .i64 n] w fun e w' => e = .returned (.string ⟨(Lib.decDigits n).toArray⟩) ∧ ∃ m, w' = w.drewN m := by
  intro n
  induction n using Nat.strongRecOn with
  | _ n ih =>
    intro w hn
    have h0 : ¬ (n : Int) < 0 := by omega
    by_cases h : n < 10
    · have h1 : (n : Int) < 10 := by omega
      have HD : Hid (Lib.decDigits n = [UInt8.ofNat (48 + n)]) := Lib.hid (by rw [Lib.decDigits, dif_pos h])
      have HE := Lib.hid (digit_at n h)
      clear ih
      go_enter Tryz.func72, Tryz.ntmps72
      go_wp2
      go_ret
      exact ⟨ret_str (by rw [HE.out, HD.out]), 0, rfl⟩
    · have h1 : ¬ (n : Int) < 10 := by omega
      obtain ⟨D1, e1⟩ : ∃ D1, D1 = Lib.decDigits (n / 10) := ⟨_, rfl⟩
      obtain ⟨D2, e2⟩ : ∃ D2, D2 = [UInt8.ofNat (48 + n % 10)] := ⟨_, rfl⟩
      have HD : Hid (Lib.decDigits n = D1 ++ D2) := Lib.hid (by rw [Lib.decDigits, dif_neg h, e1, e2])
      have HE := digit_at (n % 10) (by omega)
      rw [← e2] at HE
      have IH : Hid (∀ W, Calls Tryz.prog 72 #[.int .i64 ((n : Int) / 10)] W fun e w' => e = .returned (.string ⟨D1.toArray⟩) ∧ ∃ m, w' = W.drewN m) := Lib.hid (fun W => by rw [e1]; exact ih (n / 10) (by omega) W (by omega))
      have hm0 : (0 : Int) ≤ (n : Int) % 10 := by omega
      have hm1 : (n : Int) % 10 < 10 := by omega
      have ht : Int.tmod (n : Int) 10 = (n : Int) % 10 := Int.tmod_eq_emod_of_nonneg (by omega)
      have hsl : ∀ W, (Instr.slice 9 (.string ⟨#[48, 49, 50, 51, 52, 53, 54, 55, 56, 57]⟩) (some (.int .i64 ((n : Int) % 10))) (some (.int .i64 ((n : Int) % 10 + 1))) none).run Tryz.prog W = .ok (.string ⟨D2.toArray⟩) W := fun W => by
        have e1 : ((n : Int) % 10).toNat = n % 10 := by omega
        have e2 : ((n : Int) % 10 + 1).toNat = n % 10 + 1 := by omega
        have e3 : ((⟨#[48, 49, 50, 51, 52, 53, 54, 55, 56, 57]⟩ : ByteArray).size : Int) = 10 := rfl
        rw [run_slice_string _ _ _ _ _ _ _ Tryz.underlying9 (by omega) (by omega) (by rw [e3]; omega), e1, e2, HE]
      have hadd := cat_run (P := Tryz.prog) D1 D2 (by
        have h2 := dec_len 19 (n / 10) (by omega)
        rw [e1, e2, List.length_singleton]; omega)
      have hw1 : IntKind.i64.wrap ((n : Int) / 10) = (n : Int) / 10 := IntWalk.i64_in _ (by omega)
      have hw2 : IntKind.i64.wrap ((n : Int) % 10) = (n : Int) % 10 := IntWalk.i64_in _ (by omega)
      have hw3 : IntKind.i64.wrap ((n : Int) % 10 + 1) = (n : Int) % 10 + 1 := IntWalk.i64_in _ (by omega)
      clear ih HE e1 e2
      go_enter Tryz.func72, Tryz.ntmps72
      go_wp2
      go_quiet ((go_at_call 72; exact Calls.quiet_of (IH.out _)))
      go_wp2
      go_ret
      exact ⟨ret_str (by rw [HD.out]), _, rfl⟩

theorem drewN_chg' (w : World) (n : Nat) : Chg No w (w.drewN n) := (Chg.refl No w).drewN n
theorem chg_grow' (w : World) (os : Array Obj) : Chg No w (Go.Sort.grow w os) :=
  ⟨rfl, rfl, rfl, by simp, fun k hk _ => by simp [Go.Sort.grow, Array.getElem?_append_left hk]⟩
/-- what the library's own variables hold: some bound on lengths, and the powers of ten -/
structure Lay (w : World) : Prop where
  max : ∃ m, w.cell? ⟨0, 0, none⟩ = some (.int .i64 m)
  tab : Lib.TabIs Tryz.prog w "internal/strconv.uint64pow10" .u64 Lib.pow10Tab
theorem Lay.keep {w w' : World} (h : Lay w) (hc : Chg No w w') : Lay w' := by
  refine ⟨?_, (Lib.tabBelow_of_tabIs h.tab) w' hc.below⟩
  obtain ⟨m, hm⟩ := h.max
  have hb := World.block_lt_of_cell? w _ hm
  exact ⟨m, (hc.cellD 0 0 hb (fun e => e)).trans hm⟩
theorem dec_small (n : Nat) (hn : n < 100) (w : World) :
    Calls Tryz.prog 76 #[.int .i64 n] w fun e w' => e = .returned (.string ⟨(Lib.decDigits n).toArray⟩) ∧ w' = w := by
  go_enter Tryz.func76, Tryz.ntmps76
  go_wp2_with (go_at_call 122; refine (Tryz.strconv_Itoa_small n hn _).mono ?_; rintro e w' ⟨rfl, rfl⟩)
  go_ret
  exact ⟨rfl, rfl⟩
end Go.Proofs.YtndhijckbponkaaGreatDoor

/- records: which are valid -/
namespace Go.Proofs.YtndhijckbponkaaGreatDoor
open Go.RowKit

def sv (l : List UInt8) : Value := .string ⟨l.toArray⟩
/-- a record by value -/
def rv (c r : List UInt8) : Value := .agg #[.string ⟨c.toArray⟩, .string ⟨r.toArray⟩]
end Go.Proofs.YtndhijckbponkaaGreatDoor

/- a record encoded and read by the program -/
namespace Go.Proofs.YtndhijckbponkaaGreatDoor
open Go.RowKit

def cutV (x : UInt8) (l : List UInt8) : Value := .tuple #[.string ⟨(preB x l).toArray⟩, .string ⟨(postB x l).toArray⟩, .bool (hasL x l)]
theorem cut_any (x : UInt8) (l : List UInt8) (w : World) (hl : l.length ≤ 1073741824) (hw : Lay w) :
    Calls Tryz.prog 88 #[.string ⟨l.toArray⟩, .string ⟨#[x]⟩] w fun e w' => e = .returned (cutV x l) ∧ Chg No w w' := by
  obtain ⟨mx, hmx⟩ := hw.max
  refine (Tryz.strings_Cut ⟨l.toArray⟩ ⟨#[x]⟩ mx w (by simp [ByteArray.size]; omega) hmx).mono ?_
  rintro e w' ⟨rfl, n, rfl⟩
  refine ⟨?_, drewN_chg' w n⟩
  rw [show Lib.cut (ByteArray.mk l.toArray).data.toList (ByteArray.mk #[x]).data.toList = (preB x l, postB x l, decide (x ∈ l)) from cut_one x l]
  rfl
end Go.Proofs.YtndhijckbponkaaGreatDoor

/- what the laws' helpers do: copy, compare, mark, look whether the mark is held -/
namespace Go.Proofs.YtndhijckbponkaaGreatDoor
open Go.RowKit

theorem ret_int_eq {a b : Int} (h : a = b) : Value.int .i64 a = Value.int .i64 b := by rw [h]
def marks (k : Int) (n : Nat) : List Int := (List.range n).map (fun i : Nat => k + (i : Int))
theorem marks_len (k : Int) (n : Nat) : (marks k n).length = n := by simp [marks]
theorem marks_get (k : Int) (n i : Nat) (h : i < n) : (marks k n).getD i 0 = k + i := by simp [marks, List.getD_eq_getElem?_getD, h]
theorem RI.cellAt {A : Nat → Prop} {w : World} {a : Option Addr} {n cap : Nat} {l : List Int} (h : RI A w (.slice a n cap) l) (hl : l ≠ []) :
    ∃ b off, a = some ⟨b, off, none⟩ ∧ ¬ A b ∧ b < w.heap.size ∧ ∀ i, i < l.length → w.cell? ⟨b, off + i, none⟩ = some (.int .i64 (l.getD i 0)) := by
  obtain ⟨a', cap', he, _, _, _, _, hc⟩ := h
  simp only [Value.slice.injEq] at he
  obtain ⟨rfl, rfl, rfl⟩ := he
  exact hc hl

set_option maxRecDepth 100000 in
set_option maxHeartbeats 1000000 in
theorem eqIntS_same (A B : Nat → Prop) (v v' : Value) (l : List Int) (w : World) (h : RI A w v l) (h' : RI B w v' l) :
    Calls Tryz.prog 36 #[v, v'] w (Ret fun r w' => r = .bool true ∧ Chg No w w') := by
  have hL := h.len
  obtain ⟨a, cap, rfl, hcap, hmax, hlen, _, hc⟩ := id h
  obtain ⟨a', cap', rfl, hcap', hmax', hlen', _, hc'⟩ := id h'
  go_enter Tryz.func36, Tryz.ntmps36
  go_wp2_with fail
  go_loopw [5] (fun i wr => ∃ j : Nat, j ≤ l.length ∧ i = .int .i64 j ∧ Chg No w wr) (fun i _ => l.length - (intOf i).toNat)
  case atStart => exact ⟨0, Nat.zero_le _, rfl, Chg.refl No w⟩
  case round =>
    obtain ⟨j, hj, rfl, hch⟩ := hrel
    by_cases hlt : j < l.length
    · obtain ⟨b, off, rfl, _, hb, hcell⟩ := hc (by intro e; simp [e] at hlt)
      obtain ⟨b', off', rfl, _, hb', hcell'⟩ := hc' (by intro e; simp [e] at hlt)
      have hcl := (hch.cellD b (off + j) hb (fun e => e)).trans (hcell j hlt)
      have hcl' := (hch.cellD b' (off' + j) hb' (fun e => e)).trans (hcell' j hlt)
      obtain ⟨y, hy⟩ : ∃ y, l.getD j 0 = y := ⟨_, rfl⟩
      rw [hy] at hcl hcl'
      have hj0 : (0 : Int) ≤ (j : Int) := Int.natCast_nonneg _
      have hj1 : (j : Int) < (l.length : Int) := by omega
      have hw1 : IntKind.i64.wrap ((j : Int) + 1) = (j : Int) + 1 := IntWalk.i64_in _ (by omega)
      clear hcell hcell' hc hc' hy
      go_wp2_with fail
      go_quiet (fail)
      have hd := (Chg.refl No wr).drewN nq
      have hch := hch.keep hd
      clear hcl hcl'
      generalize wr.drewN nq = W at hd hch ⊢
      go_wp2_with fail
      go_round
      case rel => exact ⟨j + 1, hlt, by go_num, hch⟩
      case measure => simp [intOf]; omega
    · have hj' : j = l.length := by omega
      subst hj'
      clear hc hc'
      go_wp2_with fail
      go_ret
      exact ⟨_, rfl, rfl, hch⟩

set_option maxRecDepth 100000 in
set_option maxHeartbeats 1000000 in
theorem markIntS_any (base : Nat) (v : Value) (l : List Int) (k : Int) (w : World) (h : OI base w v l) (hk : 0 ≤ k ∧ k ≤ 100000000) :
    Calls Tryz.prog 49 #[v, .int .i64 k] w (Ret fun r w' => r = .int .i64 (k + l.length) ∧ OI base w' v (marks k l.length) ∧ Chg (own v) w w') := by
  have hL := h.len
  obtain ⟨a, cap, rfl, hcap, hmax, hvw⟩ := h.view
  go_enter Tryz.func49, Tryz.ntmps49
  go_wp2_with fail
  go_loopw [1, 5] (fun s i wr => ∃ (j : Nat) (m : List Int), j ≤ l.length ∧ i = .int .i64 j ∧ s = .int .i64 (k + j) ∧ m.length = l.length ∧ (∀ q, q < j → m.getD q 0 = k + q) ∧ OI base wr (.slice a l.length cap) m ∧ Chg (own (.slice a l.length cap)) w wr) (fun _ i _ => l.length - (intOf i).toNat)
  case atStart => exact ⟨0, l, Nat.zero_le _, rfl, by simp, rfl, fun q hq => absurd hq (Nat.not_lt_zero _), h, Chg.refl _ w⟩
  case round =>
    obtain ⟨j, m, hj, rfl, rfl, hm, hsame, ho, hch⟩ := hrel
    by_cases hlt : j < l.length
    · obtain ⟨g, rfl, hg1, hg2, _, _⟩ := hvw (by omega)
      have HS := Lib.hid hsame
      have hoc := ho.at.1 j (by omega)
      have hof := ho.at.2.1 j
      have hj0 : (0 : Int) ≤ (j : Int) := Int.natCast_nonneg _
      have hj1 : (j : Int) < (l.length : Int) := by omega
      have hw1 : IntKind.i64.wrap ((j : Int) + 1) = (j : Int) + 1 := IntWalk.i64_in _ (by omega)
      have hw2 : IntKind.i64.wrap (k + (j : Int) + 1) = k + (j : Int) + 1 := IntWalk.i64_in _ (by omega)
      obtain ⟨o1, o2⟩ := ho.store j (k + (j : Int))
      have hch1 := hch.step o2 (fun q hq _ => own_slice.2 hq)
      clear hsame hvw
      go_wp2_with fail
      go_round
      case rel =>
        refine ⟨j + 1, m.set j (k + (j : Int)), hlt, by go_num, ret_int_eq (by omega), by simpa using hm, fun q hq => ?_, o1, hch1⟩
        by_cases hqj : q = j
        · subst hqj
          simp [List.getD_eq_getElem?_getD, hm, hlt]
        · rw [← HS.out q (by omega)]
          simp [List.getD_eq_getElem?_getD, Ne.symm hqj]
      case measure => simp [intOf]; omega
    · have hj' : j = l.length := by omega
      have e : m = marks k l.length := List.ext_getElem (by rw [hm, marks_len]) (fun q h1 h2 => by
        have := hsame q (by omega)
        rw [List.getD_eq_getElem?_getD, List.getElem?_eq_getElem h1] at this
        simp only [Option.getD_some] at this
        simp [marks, this])
      rw [e] at ho
      subst hj'
      clear hsame hvw
      go_wp2_with fail
      go_ret
      exact ⟨_, rfl, rfl, ho, hch⟩

set_option maxRecDepth 100000 in
set_option maxHeartbeats 1000000 in
theorem heldIntS_any (A : Nat → Prop) (v : Value) (n : Nat) (k : Int) (w : World) (h : RI A w v (marks k n)) (hk : 0 ≤ k ∧ k ≤ 100000000) :
    Calls Tryz.prog 51 #[v, .int .i64 k] w fun e w' => e = .returned (.int .i64 (k + n)) ∧ w = w' := by
  have hL := h.len
  rw [marks_len] at hL
  obtain ⟨a, cap, rfl, hcap, hmax, hlen, _, hc⟩ := id h
  rw [marks_len] at *
  go_enter Tryz.func51, Tryz.ntmps51
  go_wp2_with fail
  go_loop [1, 5] (fun s i => ∃ j : Nat, j ≤ n ∧ i = .int .i64 j ∧ s = .int .i64 (k + j)) (fun _ i => n - (intOf i).toNat)
  case atStart => exact ⟨0, Nat.zero_le _, rfl, by simp⟩
  case round =>
    obtain ⟨j, hj, rfl, rfl⟩ := hrel
    by_cases hlt : j < n
    · obtain ⟨b, off, rfl, _, hb, hcell⟩ := hc (by intro e; have := congrArg List.length e; rw [marks_len] at this; simp at this; omega)
      have hcl := hcell j hlt
      rw [marks_get k n j hlt] at hcl
      have hj0 : (0 : Int) ≤ (j : Int) := Int.natCast_nonneg _
      have hj1 : (j : Int) < (n : Int) := by omega
      have hw1 : IntKind.i64.wrap ((j : Int) + 1) = (j : Int) + 1 := IntWalk.i64_in _ (by omega)
      have hw2 : IntKind.i64.wrap (k + (j : Int) + 1) = k + (j : Int) + 1 := IntWalk.i64_in _ (by omega)
      clear hcell hc
      go_wp2_with fail
      go_round
      case rel => exact ⟨j + 1, hlt, by go_num, ret_int_eq (by omega)⟩
      case measure => simp [intOf]; omega
    · have hj' : j = n := by omega
      subst hj'
      clear hc
      go_wp2_with fail
      go_ret
      exact ⟨rfl, rfl⟩
end Go.Proofs.YtndhijckbponkaaGreatDoor
