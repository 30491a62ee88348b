import Derived.Test.YtndhijckbponkaaGreatDoorI
import Derived.Test.YtndhijckbponkaaGreatDoorYa
import Derived.Test.YtndhijckbponkaaGreatDoorQv
import Derived.Test.YtndhijckbponkaaGreatDoorShelf
import Derived.Lib.AppendIntMem
/- numerals and sealed texts -/
namespace Go.Proofs.YtndhijckbponkaaGreatDoor
open Go.RowKit

theorem digit_at (n : Nat) (h : n < 10) : (⟨#[48, 49, 50, 51, 52, 53, 54, 55, 56, 57]⟩ : ByteArray).extract n (n + 1) = ⟨[UInt8.ofNat (48 + n)].toArray⟩ := by
  have : n = 0 ∨ n = 1 ∨ n = 2 ∨ n = 3 ∨ n = 4 ∨ n = 5 ∨ n = 6 ∨ n = 7 ∨ n = 8 ∨ n = 9 := by omega
  rcases this with rfl | rfl | rfl | rfl | rfl | rfl | rfl | rfl | rfl | rfl <;> rfl
theorem cat_run {P : Program} (x y : List UInt8) (h : x.length + y.length ≤ 9223372036854775807) (w : World) : (Op.stringOp .add ⟨x.toArray⟩ ⟨y.toArray⟩).run P w = .ok (.string ⟨(x ++ y).toArray⟩) w := by
  rw [run_string_add_sum w _ _ (by simpa [ByteArray.size] using h), ByteArray.mk_append_mk]
theorem ret_str {a b : ByteArray} (h : a = b) : Ending.returned (.string a) = .returned (.string b) := by rw [h]
set_option maxRecDepth 100000 in
set_option maxHeartbeats 1000000 in
theorem l1Num_any : ∀ (n : Nat) (w : World), n ≤ 9223372036854775807 → Calls Tryz.prog 72 #[.int .i64 n] w fun e w' => e = .returned (.string ⟨(Lib.decDigits n).toArray⟩) ∧ ∃ m, w' = w.drewN m := by
  intro n
  induction n using Nat.strongRecOn with
  | _ n ih =>
    intro w hn
    have h0 : ¬ (n : Int) < 0 := by omega
    by_cases h : n < 10
    · have h1 : (n : Int) < 10 := by omega
      have HD : Hid (Lib.decDigits n = [UInt8.ofNat (48 + n)]) := Lib.hid (by rw [Lib.decDigits, dif_pos h])
      have HE := Lib.hid (digit_at n h)
      clear ih
      go_enter Tryz.func72, Tryz.ntmps72
      go_wp2
      go_ret
      exact ⟨ret_str (by rw [HE.out, HD.out]), 0, rfl⟩
    · have h1 : ¬ (n : Int) < 10 := by omega
      obtain ⟨D1, e1⟩ : ∃ D1, D1 = Lib.decDigits (n / 10) := ⟨_, rfl⟩
      obtain ⟨D2, e2⟩ : ∃ D2, D2 = [UInt8.ofNat (48 + n % 10)] := ⟨_, rfl⟩
      have HD : Hid (Lib.decDigits n = D1 ++ D2) := Lib.hid (by rw [Lib.decDigits, dif_neg h, e1, e2])
      have HE := digit_at (n % 10) (by omega)
      rw [← e2] at HE
      have IH : Hid (∀ W, Calls Tryz.prog 72 #[.int .i64 ((n : Int) / 10)] W fun e w' => e = .returned (.string ⟨D1.toArray⟩) ∧ ∃ m, w' = W.drewN m) := Lib.hid (fun W => by rw [e1]; exact ih (n / 10) (by omega) W (by omega))
      have hm0 : (0 : Int) ≤ (n : Int) % 10 := by omega
      have hm1 : (n : Int) % 10 < 10 := by omega
      have ht : Int.tmod (n : Int) 10 = (n : Int) % 10 := Int.tmod_eq_emod_of_nonneg (by omega)
      have hsl : ∀ W, (Instr.slice 9 (.string ⟨#[48, 49, 50, 51, 52, 53, 54, 55, 56, 57]⟩) (some (.int .i64 ((n : Int) % 10))) (some (.int .i64 ((n : Int) % 10 + 1))) none).run Tryz.prog W = .ok (.string ⟨D2.toArray⟩) W := fun W => by
        have e1 : ((n : Int) % 10).toNat = n % 10 := by omega
        have e2 : ((n : Int) % 10 + 1).toNat = n % 10 + 1 := by omega
        have e3 : ((⟨#[48, 49, 50, 51, 52, 53, 54, 55, 56, 57]⟩ : ByteArray).size : Int) = 10 := rfl
        rw [run_slice_string _ _ _ _ _ _ _ Tryz.underlying9 (by omega) (by omega) (by rw [e3]; omega), e1, e2, HE]
      have hadd := cat_run (P := Tryz.prog) D1 D2 (by
        have h2 := dec_len 19 (n / 10) (by omega)
        rw [e1, e2, List.length_singleton]; omega)
      have hw1 : IntKind.i64.wrap ((n : Int) / 10) = (n : Int) / 10 := IntWalk.i64_in _ (by omega)
      have hw2 : IntKind.i64.wrap ((n : Int) % 10) = (n : Int) % 10 := IntWalk.i64_in _ (by omega)
      have hw3 : IntKind.i64.wrap ((n : Int) % 10 + 1) = (n : Int) % 10 + 1 := IntWalk.i64_in _ (by omega)
      clear ih HE e1 e2
      go_enter Tryz.func72, Tryz.ntmps72
      go_wp2
      go_quiet ((go_at_call 72; exact Calls.quiet_of (IH.out _)))
      go_wp2
      go_ret
      exact ⟨ret_str (by rw [HD.out]), _, rfl⟩

theorem drewN_chg' (w : World) (n : Nat) : Chg No w (w.drewN n) := (Chg.refl No w).drewN n
/-- what the library's own variables hold: some bound on lengths, and the powers of ten -/
structure Lay (w : World) : Prop where
  max : ∃ m, w.cell? ⟨0, 0, none⟩ = some (.int .i64 m)
  tab : Lib.TabIs Tryz.prog w "internal/strconv.uint64pow10" .u64 Lib.pow10Tab
theorem Lay.keep {w w' : World} (h : Lay w) (hc : Chg No w w') : Lay w' := by
  refine ⟨?_, (Lib.tabBelow_of_tabIs h.tab) w' hc.below⟩
  obtain ⟨m, hm⟩ := h.max
  have hb := World.block_lt_of_cell? w _ hm
  exact ⟨m, (hc.cellD 0 0 hb (fun e => e)).trans hm⟩
theorem dec_small (n : Nat) (hn : n < 100) (w : World) :
    Calls Tryz.prog 76 #[.int .i64 n] w fun e w' => e = .returned (.string ⟨(Lib.decDigits n).toArray⟩) ∧ w' = w := by
  go_enter Tryz.func76, Tryz.ntmps76
  go_wp2_with (go_at_call 122; refine (Tryz.strconv_Itoa_small n hn _).mono ?_; rintro e w' ⟨rfl, rfl⟩)
  go_ret
  exact ⟨rfl, rfl⟩
end Go.Proofs.YtndhijckbponkaaGreatDoor
