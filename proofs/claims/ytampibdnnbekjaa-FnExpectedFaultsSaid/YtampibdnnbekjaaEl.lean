import Derived.Test.YtampibdnnbekjaaEh
import Derived.Test.YtampibdnnbekjaaEk
import Derived.Test.YtampibdnnbekjaaUo
/- the law of drawing sequences of two items -/
namespace Go.Proofs.Ytampibdnnbekjaa
open Go.RowKit

theorem mkFr_yes {a b : Int} (ha : 0 ≤ a ∧ a ≤ 100000000) (hb : 1 ≤ b ∧ b ≤ 100000) : (mkFr a b).ok = true ∧ (mkFr a b).num * b = a * (mkFr a b).den ∧ 0 ≤ (mkFr a b).num ∧ (mkFr a b).num ≤ a ∧ 1 ≤ (mkFr a b).den ∧ (mkFr a b).den ≤ b := by
  obtain ⟨m, rfl⟩ := Int.eq_ofNat_of_zero_le ha.1
  obtain ⟨n, rfl⟩ := Int.eq_ofNat_of_zero_le (show 0 ≤ b by omega)
  have hn : 0 < n := by omega
  have hg : 0 < Nat.gcd m n := Nat.gcd_pos_of_pos_right _ hn
  have e1 : gcdI (absI (m : Int)) (n : Int) = ((Nat.gcd m n : Nat) : Int) := by
    unfold gcdI absI
    rw [Int.natAbs_natCast, Int.gcd_natCast_natCast]
  have e2 : ((m : Int)).tdiv ((Nat.gcd m n : Nat) : Int) = ((m / Nat.gcd m n : Nat) : Int) := by
    rw [Int.tdiv_eq_ediv_of_nonneg (Int.natCast_nonneg _), Int.natCast_ediv]
  have e3 : ((n : Int)).tdiv ((Nat.gcd m n : Nat) : Int) = ((n / Nat.gcd m n : Nat) : Int) := by
    rw [Int.tdiv_eq_ediv_of_nonneg (Int.natCast_nonneg _), Int.natCast_ediv]
  have h1 : m / Nat.gcd m n ≤ m := Nat.div_le_self _ _
  have h2 : n / Nat.gcd m n ≤ n := Nat.div_le_self _ _
  have h3 : 0 < n / Nat.gcd m n := Nat.div_pos (Nat.le_of_dvd hn (Nat.gcd_dvd_right m n)) hg
  have h4 : gcdI (absI ((m / Nat.gcd m n : Nat) : Int)) ((n / Nat.gcd m n : Nat) : Int) = 1 := by
    unfold gcdI absI
    rw [Int.natAbs_natCast, Int.gcd_natCast_natCast, Nat.coprime_div_gcd_div_gcd hg]
    rfl
  have h5 : fracB ((m / Nat.gcd m n : Nat) : Int) ((n / Nat.gcd m n : Nat) : Int) = true := by
    unfold fracB
    rw [h4, Bool.and_eq_true, Bool.and_eq_true, inB_iff, inB_iff]
    refine ⟨⟨?_, ?_⟩, by decide⟩
    · generalize n / Nat.gcd m n = y at h2 h3; omega
    · generalize m / Nat.gcd m n = x at h1; omega
  have e4 : mkFr (m : Int) (n : Int) = ⟨((m / Nat.gcd m n : Nat) : Int), ((n / Nat.gcd m n : Nat) : Int), true⟩ := by
    unfold mkFr
    simp only [e1, e2, e3, h5, if_true]
  rw [e4]
  refine ⟨rfl, ?_, Int.natCast_nonneg _, Int.ofNat_le.2 h1, Int.ofNat_le.2 h3, Int.ofNat_le.2 h2⟩
  show ((m / Nat.gcd m n : Nat) : Int) * (n : Int) = (m : Int) * ((n / Nat.gcd m n : Nat) : Int)
  rw [← Int.natCast_mul, ← Int.natCast_mul]
  congr 1
  obtain ⟨x, hx⟩ := Nat.gcd_dvd_left m n
  obtain ⟨y, hy⟩ := Nat.gcd_dvd_right m n
  generalize Nat.gcd m n = g at *
  rw [hx, hy, Nat.mul_div_cancel_left _ hg, Nat.mul_div_cancel_left _ hg, Nat.mul_left_comm, Nat.mul_assoc]
theorem mkFr_one {b : Int} (hb : 1 ≤ b ∧ b ≤ 100000) : mkFr b b = ⟨1, 1, true⟩ := by
  obtain ⟨n, rfl⟩ := Int.eq_ofNat_of_zero_le (show 0 ≤ b by omega)
  have hn : 0 < n := by omega
  have e1 : gcdI (absI (n : Int)) (n : Int) = (n : Int) := by
    unfold gcdI absI
    rw [Int.natAbs_natCast, Int.gcd_natCast_natCast, Nat.gcd_self]
  have e2 : ((n : Int)).tdiv (n : Int) = 1 := Int.tdiv_self (by omega)
  unfold mkFr
  simp only [e1, e2]
  rfl
theorem expV_ok {n p k : Int} {ws : List Int} {L : Int} (h : (expV n p k ws L).ok = true) : expB n p k ws L = true := by
  cases e : expB n p k ws L
  · rw [expV_no e] at h; exact h
  · rfl
theorem drawn_one (ws : List Int) (W : Int) (p k : Int) : drawnC ws W 1 (newC p k) = sumW ws := by
  rw [drawnC_succ]
  refine sumTo_congr (fun a ha => ?_)
  show ws.getD a 0 * (0 + if hasB [] (a : Int) then 0 else W ^ 0) = _
  rw [show hasB [] (a : Int) = false from rfl]
  simp
theorem gAdd_two {ws : List Int} (c : Ca) {i j : Nat} (hi : i < ws.length) (hj : j < ws.length) : gAdd ws ws.length 2 c (i * ws.length + j) = ws.getD i 0 * ws.getD j 0 * (nfC c [(i : Int), (j : Int)] : Int) := by
  have hn : 0 < ws.length := by omega
  have e1 := digs_first hn 1 i j hi (by simpa using hj)
  have e2 := digs_first hn 0 j 0 hj (by simp)
  simp only [Nat.pow_one, Nat.pow_zero, Nat.mul_one, Nat.add_zero, Nat.zero_add] at e1 e2
  unfold gAdd
  rw [e1, e2, wt_cons, wt_cons]
  show ws.getD i 0 * (ws.getD j 0 * 1) * _ = _
  rw [Int.mul_one]
  rfl
end Go.Proofs.Ytampibdnnbekjaa
