import Derived.Test.YtndhijckbponkaaPkX6
import Derived.Test.YtndhijckbponkaaPkX1
/- the sequences of items in order, with a function of four cells -/
namespace Go.Proofs.Ytndhijckbponkaa
open Go.RowKit

/-- a sequence with its last items 0 -/
def zed (n L t m : Nat) : List Int := (List.range L).map (fun j => if j < L - m then ((t / n ^ (L - 1 - j) % n : Nat) : Int) else 0)
theorem zed_len (n L t m : Nat) : (zed n L t m).length = L := by simp [zed]
theorem zed_at (n L t m j : Nat) (hj : j < L) : (zed n L t m).getD j 0 = if j < L - m then ((t / n ^ (L - 1 - j) % n : Nat) : Int) else 0 := by
  simp [zed, List.getD_eq_getElem?_getD, hj]
theorem ext_getD {a b : List Int} (hl : a.length = b.length) (h : ∀ j, j < a.length → a.getD j 0 = b.getD j 0) : a = b :=
  List.ext_getElem hl (fun q h1 h2 => by
    have := h q h1
    rw [List.getD_eq_getElem?_getD, List.getD_eq_getElem?_getD, List.getElem?_eq_getElem h1, List.getElem?_eq_getElem h2] at this
    exact this)
theorem zed_zero (n L t : Nat) : zed n L t 0 = digs n L t := by
  refine ext_getD (by rw [zed_len, digs_len]) (fun j hj => ?_)
  rw [zed_len] at hj
  rw [zed_at n L t 0 j hj, digs_at n L t j hj, if_pos (by omega)]
theorem getD_set (l : List Int) (i j : Nat) (x : Int) (hi : i < l.length) : (l.set i x).getD j 0 = if j = i then x else l.getD j 0 := by
  by_cases e : j = i
  · subst e
    rw [if_pos rfl, List.getD_eq_getElem?_getD, List.getElem?_set_self hi]; rfl
  · rw [if_neg e, List.getD_eq_getElem?_getD, List.getElem?_set_ne (Ne.symm e), ← List.getD_eq_getElem?_getD]
/-- the quotients about a number that ends in many highest digits -/
theorem quo_facts {n t m : Nat} (hn : 0 < n) (hd : n ^ m ∣ t + 1) : ∃ q, t + 1 = n ^ m * q ∧ 1 ≤ q ∧ t / n ^ m = q - 1 ∧ (t + 1) / n ^ m = q := by
  obtain ⟨q, hq⟩ := hd
  have hp : 0 < n ^ m := Nat.pow_pos hn
  have hq1 : 1 ≤ q := by
    rcases Nat.eq_zero_or_pos q with e | e
    · rw [e, Nat.mul_zero] at hq; omega
    · exact e
  refine ⟨q, hq, hq1, ?_, by rw [hq, Nat.mul_div_cancel_left _ hp]⟩
  have e : n ^ m * q = n ^ m * (q - 1) + n ^ m := by
    conv => lhs; rw [show q = q - 1 + 1 by omega]
    rw [Nat.mul_add, Nat.mul_one]
  have e2 : t = (n ^ m - 1) + n ^ m * (q - 1) := by omega
  rw [e2, Nat.add_mul_div_left _ _ hp, Nat.div_eq_of_lt (by omega), Nat.zero_add]
theorem zed_next {n L t m : Nat} (hn : 0 < n) (hm : m < L) (hd : n ^ m ∣ t + 1) (he : t / n ^ m % n = n - 1) : n ^ (m + 1) ∣ t + 1 ∧ (zed n L t m).set (L - 1 - m) 0 = zed n L t (m + 1) := by
  obtain ⟨q, h1, h2, h3, h4⟩ := quo_facts hn hd
  refine ⟨?_, ext_getD (by simp [zed_len]) (fun j hj => ?_)⟩
  · have hq : q % n = 0 := by
      rw [h3] at he
      rw [show q = q - 1 + 1 by omega, Nat.add_mod, he]
      rcases Nat.lt_or_ge 1 n with h | h
      · rw [Nat.mod_eq_of_lt h, Nat.sub_add_cancel (by omega), Nat.mod_self]
      · rw [show n = 1 by omega]
    obtain ⟨p, hp⟩ := Nat.dvd_of_mod_eq_zero hq
    exact ⟨p, by rw [h1, hp, Nat.pow_succ, Nat.mul_assoc]⟩
  · rw [List.length_set, zed_len] at hj
    rw [getD_set _ _ _ _ (by rw [zed_len]; omega), zed_at n L t m j hj, zed_at n L t (m + 1) j hj]
    by_cases e : j = L - 1 - m
    · rw [if_pos e, if_neg (by omega)]
    · rw [if_neg e]
      by_cases e2 : j < L - m
      · rw [if_pos e2, if_pos (by omega)]
      · rw [if_neg e2, if_neg (by omega)]
theorem zed_up {n L t m : Nat} (hn : 0 < n) (hm : m < L) (ht : t < n ^ L) (hd : n ^ m ∣ t + 1) (he : t / n ^ m % n ≠ n - 1) : t + 1 < n ^ L ∧ (zed n L t m).set (L - 1 - m) (((t / n ^ m % n : Nat) : Int) + 1) = digs n L (t + 1) := by
  obtain ⟨q, h1, h2, h3, h4⟩ := quo_facts hn hd
  rw [h3] at he
  have hlt := Nat.mod_lt (q - 1) hn
  have hq : q % n = (q - 1) % n + 1 := by
    conv => lhs; rw [show q = q - 1 + 1 by omega, Nat.add_mod]
    rcases Nat.lt_or_ge 1 n with h | h
    · rw [Nat.mod_eq_of_lt h, Nat.mod_eq_of_lt (by omega)]
    · omega
  have hqd : (q - 1) / n = q / n := by
    have e1 := Nat.div_add_mod (q - 1) n
    have e2 := Nat.div_add_mod q n
    have : n * ((q - 1) / n) = n * (q / n) := by omega
    exact Nat.eq_of_mul_eq_mul_left hn this
  refine ⟨?_, ext_getD (by simp [zed_len, digs_len]) (fun j hj => ?_)⟩
  · rcases Nat.lt_or_ge (t + 1) (n ^ L) with h | h
    · exact h
    · have e : t + 1 = n ^ L := by omega
      have e2 : q = n ^ (L - m) := by
        rw [← h4, e, Nat.pow_div (by omega) hn]
      have e3 : q % n = 0 := by
        rw [e2, show L - m = (L - m - 1) + 1 by omega, Nat.pow_succ, Nat.mul_mod_left]
      omega
  · rw [List.length_set, zed_len] at hj
    rw [getD_set _ _ _ _ (by rw [zed_len]; omega), zed_at n L t m j hj, digs_at n L (t + 1) j hj]
    by_cases e : j = L - 1 - m
    · rw [if_pos e, e, show L - 1 - (L - 1 - m) = m by omega, h3, h4, hq]
      rfl
    · rw [if_neg e]
      by_cases e2 : j < L - m
      · rw [if_pos e2]
        have ek : L - 1 - j = m + 1 + (L - 1 - j - (m + 1)) := by omega
        have hs (a : Nat) (k : Nat) : a / n ^ (m + 1 + k) = a / n ^ m / n / n ^ k := by
          rw [Nat.pow_add, Nat.pow_succ, Nat.div_div_eq_div_mul, Nat.div_div_eq_div_mul, Nat.mul_assoc]
        rw [ek, hs t, hs (t + 1), h3, h4, hqd]
      · rw [if_neg e2]
        have ek : m = L - 1 - j + 1 + (m - (L - 1 - j + 1)) := by omega
        have : (t + 1) / n ^ (L - 1 - j) % n = 0 := by
          rw [h1]
          conv => lhs; rw [ek, Nat.pow_add, Nat.pow_succ, Nat.mul_assoc, Nat.mul_assoc, Nat.mul_div_cancel_left _ (Nat.pow_pos hn)]
          rw [Nat.mul_mod_right]
        rw [this]
        rfl
/-- the number of a sequence -/
def valD (n : Nat) : List Int → Nat
  | [] => 0
  | x :: l => x.toNat * n ^ l.length + valD n l
theorem valD_digs (n L t : Nat) : valD n (digs n L t) = t % n ^ L := by
  induction L with
  | zero => show 0 = t % 1; rw [Nat.mod_one]
  | succ L ih =>
    rw [digs, valD, ih, digs_len, Nat.pow_succ, Nat.mod_mul, Int.toNat_natCast, Nat.mul_comm, Nat.add_comm]
/-- the numbers in the first cells of a block -/
def rdL (w : World) (b L : Nat) : List Int := (List.range L).map fun j => intOf ((w.cell? ⟨b, j, none⟩).getD (.int .i64 0))
theorem rdL_eq {w : World} {b : Nat} {l : List Int} (h : ∀ i, i < l.length → w.cell? ⟨b, i, none⟩ = some (.int .i64 (l.getD i 0))) : rdL w b l.length = l := by
  refine ext_getD (by simp [rdL]) (fun j hj => ?_)
  have hj' : j < l.length := by simpa [rdL] using hj
  have e : (rdL w b l.length).getD j 0 = intOf ((w.cell? ⟨b, j, none⟩).getD (.int .i64 0)) := by simp [rdL, List.getD_eq_getElem?_getD, hj']
  rw [e, h j hj']
  rfl
theorem rdL_digs {base : Nat} {w : World} {g n L t : Nat} (h : OI base w (.slice (some ⟨g, 0, none⟩) L L) (digs n L t)) (ht : t < n ^ L) : valD n (rdL w g L) = t := by
  have e := rdL_eq h.at.1
  rw [digs_len] at e
  rw [e, valD_digs, Nat.mod_eq_of_lt ht]
end Go.Proofs.Ytndhijckbponkaa
