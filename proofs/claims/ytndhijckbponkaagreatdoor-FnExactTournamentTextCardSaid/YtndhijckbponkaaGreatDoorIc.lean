import Derived.Test.YtndhijckbponkaaGreatDoorIb
/- numerals: written and read, by the reference and by the program -/
namespace Go.Proofs.YtndhijckbponkaaGreatDoor
open Go.RowKit

theorem ret2_eq {a b : Value} {a' b' : Value} (h1 : a = a') (h2 : b = b') : Ending.returned (.tuple #[a, b]) = .returned (.tuple #[a', b']) := by rw [h1, h2]

set_option maxRecDepth 100000 in
theorem l1NumI_any (v : Int) (w : World) (h0 : -9223372036854775807 ≤ v) (h1 : v ≤ 9223372036854775807) :
    Calls Tryz.prog 72 #[.int .i64 v] w fun e w' => e = .returned (.string ⟨(Lib.itoa v).toArray⟩) ∧ ∃ m, w' = w.drewN m := by
  by_cases hv : v < 0
  · obtain ⟨n, rfl⟩ : ∃ n : Nat, v = -(n : Int) := ⟨v.natAbs, by omega⟩
    have h3 := Lib.hid (fun W => l1Num_any n W (by omega))
    obtain ⟨D, hD⟩ : ∃ D, D = Lib.decDigits n := ⟨_, rfl⟩
    have hDl := dec_len 19 n (by omega)
    have HE : Hid (Lib.itoa (-(n : Int)) = [45] ++ D) := Lib.hid (by rw [itoa_neg' n (by omega), hD]; rfl)
    rw [← hD] at h3 hDl
    have c1 := cat_run (P := Tryz.prog) [45] D (by simp; omega)
    have hw1 : IntKind.i64.wrap (-(-(n : Int))) = (n : Int) := by rw [Int.neg_neg]; exact IntWalk.i64_in _ (by omega)
    clear hD
    go_enter Tryz.func72, Tryz.ntmps72
    go_wp2_with (go_at_call 72; refine (h3.out _).mono ?_; rintro e w' ⟨rfl, m, rfl⟩)
    go_ret
    exact ⟨ret_str (by rw [HE.out]; rfl), _, rfl⟩
  · obtain ⟨n, rfl⟩ : ∃ n : Nat, v = (n : Int) := ⟨v.natAbs, by omega⟩
    rw [itoa_nat']
    exact l1Num_any n w (by omega)

end Go.Proofs.YtndhijckbponkaaGreatDoor
