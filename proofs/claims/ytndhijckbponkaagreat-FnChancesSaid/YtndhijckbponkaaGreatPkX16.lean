import Derived.Test.YtndhijckbponkaaGreatXi
import Derived.Test.YtndhijckbponkaaGreatJd
import Derived.Test.YtndhijckbponkaaGreatPq
import Derived.Test.YtndhijckbponkaaGreatPkX12
/- GreedyAlgorithm -/
namespace Go.Proofs.YtndhijckbponkaaGreat
open Go.RowKit

set_option maxRecDepth 100000 in
set_option maxHeartbeats 2000000 in
theorem greedyAlgorithm_any (A : Nat → Prop) (v : Value) (p : Pr) (w : World) (hp : PrP p) (h : RPr A w v p) :
    Calls Tryz.prog 17 #[v] w (Ret2 fun e b w' => b = .bool true ∧ ∃ nx, RII No w' e nx ∧ AlgP p nx ∧ Chg No w w') := by
  have hv := h
  obtain ⟨mv, sv, rfl, hm, hs⟩ := h
  obtain ⟨ma, mc, rfl⟩ := hm.shape
  obtain ⟨sa, sc, rfl⟩ := hs.shape
  have hpb := bP_yes hp
  go_enter Tryz.func17, Tryz.ntmps17
  go_wp2_with fail
  refine bx1 (R := fun W => Calls _ _ _ W _) (fun W0 k0 b0 => ?_)
  refine (IsProblem_any A _ p W0 (hv.keep k0)).mono ?_
  rintro e w1 ⟨_, rfl, rfl, k1⟩
  rw [hpb]
  have kk := k0.keep k1
  have bb := b0.keep k1
  have g0 := bb.c 0 _ rfl
  have g1 := bb.c 1 _ rfl
  go_wp2_with fail
  refine (algorithmBy_any A _ p _ hp (hv.keep kk)).mono ?_
  rintro e w2 ⟨_, rfl, nx, hn, ha, k2⟩
  have HF := Lib.hid (And.intro hn (And.intro ha (kk.keep k2)))
  obtain ⟨na, nc, rfl⟩ := hn.shape
  clear hn ha k2 g0 g1
  go_wp2_with fail
  go_ret2
  exact ⟨_, _, rfl, rfl, nx, HF.out⟩
end Go.Proofs.YtndhijckbponkaaGreat

/- fractions compared crosswise, plain; an algorithm's average -/
namespace Go.Proofs.YtndhijckbponkaaGreat

theorem cross_le {A1 W1 A2 W2 n1 d1 n2 d2 : Int} (h : A1 * W2 ≤ A2 * W1) (h1 : n1 * W1 = A1 * d1) (h2 : n2 * W2 = A2 * d2) (hd1 : 0 ≤ d1) (hd2 : 0 ≤ d2) (hW1 : 0 < W1) (hW2 : 0 < W2) : n1 * d2 ≤ n2 * d1 := by
  have hWW : 0 < W1 * W2 := Int.mul_pos hW1 hW2
  have hdd := Int.mul_nonneg hd1 hd2
  have h3 := Int.mul_le_mul_of_nonneg_right h hdd
  have e1 : n1 * d2 * (W1 * W2) = A1 * W2 * (d1 * d2) := by
    have : n1 * d2 * (W1 * W2) = (n1 * W1) * (d2 * W2) := by simp only [Int.mul_assoc, Int.mul_left_comm]
    rw [this, h1]
    simp only [Int.mul_left_comm, Int.mul_comm]
  have e2 : n2 * d1 * (W1 * W2) = A2 * W1 * (d1 * d2) := by
    have : n2 * d1 * (W1 * W2) = (n2 * W2) * (d1 * W1) := by simp only [Int.mul_left_comm, Int.mul_comm]
    rw [this, h2]
    simp only [Int.mul_left_comm, Int.mul_comm]
  rw [← e1, ← e2] at h3
  exact Int.le_of_mul_le_mul_right h3 hWW
/-- the costs of a strategy, as the law sums them -/
def sumS (p : Pr) (τ : Nat → List Int → Nat) (s : Nat) : Chs → Int
  | [] => 0
  | (q, w) :: cs => w * rest p τ s [] q + sumS p τ s cs
theorem sumS_part (p : Pr) (τ : Nat → List Int → Nat) (s : Nat) : ∀ cs : Chs, sumS p τ s cs = part p τ s [] cs
  | [] => rfl
  | (q, w) :: cs => by
    simp only [sumS, part, List.isPrefixOf_nil_left, if_true, List.length_nil, List.drop_zero]
    rw [sumS_part p τ s cs]
/-- FnChances: no algorithm pays less -/
theorem chances_high {p : Pr} (hp : PrB p) {cs : Chs} {L : Nat} (hc : ChB p.sv.length L cs) {τ : Nat → List Int → Nat} (ht : TauB p τ) {s : Nat} (hs : s < p.mv.length) : ahead p cs L s [] ≤ sumS p τ s cs := by
  rw [sumS_part]
  exact ahead_le hp hc ht L s [] hs (by simp)
end Go.Proofs.YtndhijckbponkaaGreat

/- FnBestReply, plain -/
namespace Go.Proofs.YtndhijckbponkaaGreat

/-- a Frac made of small numbers -/
theorem mkFr_fine {a b : Int} (ha : 0 ≤ a ∧ a ≤ 100000000) (hb : 1 ≤ b ∧ b ≤ 100000) : (mkFr a b).ok = true ∧ (mkFr a b).num * b = a * (mkFr a b).den ∧ 0 ≤ (mkFr a b).num ∧ (mkFr a b).num ≤ a ∧ 1 ≤ (mkFr a b).den ∧ (mkFr a b).den ≤ b := by
  obtain ⟨m, rfl⟩ := Int.eq_ofNat_of_zero_le ha.1
  obtain ⟨n, rfl⟩ := Int.eq_ofNat_of_zero_le (show 0 ≤ b by omega)
  have hn : 0 < n := by omega
  have hg : 0 < Nat.gcd m n := Nat.gcd_pos_of_pos_right _ hn
  have e1 : gcdI (absI (m : Int)) (n : Int) = ((Nat.gcd m n : Nat) : Int) := by
    unfold gcdI absI
    rw [Int.natAbs_natCast, Int.gcd_natCast_natCast]
  have e2 : ((m : Int)).tdiv ((Nat.gcd m n : Nat) : Int) = ((m / Nat.gcd m n : Nat) : Int) := by
    rw [Int.tdiv_eq_ediv_of_nonneg (Int.natCast_nonneg _), Int.natCast_ediv]
  have e3 : ((n : Int)).tdiv ((Nat.gcd m n : Nat) : Int) = ((n / Nat.gcd m n : Nat) : Int) := by
    rw [Int.tdiv_eq_ediv_of_nonneg (Int.natCast_nonneg _), Int.natCast_ediv]
  have h1 : m / Nat.gcd m n ≤ m := Nat.div_le_self _ _
  have h2 : n / Nat.gcd m n ≤ n := Nat.div_le_self _ _
  have h3 : 0 < n / Nat.gcd m n := Nat.div_pos (Nat.le_of_dvd hn (Nat.gcd_dvd_right m n)) hg
  have h4 : gcdI (absI ((m / Nat.gcd m n : Nat) : Int)) ((n / Nat.gcd m n : Nat) : Int) = 1 := by
    unfold gcdI absI
    rw [Int.natAbs_natCast, Int.gcd_natCast_natCast, Nat.coprime_div_gcd_div_gcd hg]
    rfl
  have h5 : fracB ((m / Nat.gcd m n : Nat) : Int) ((n / Nat.gcd m n : Nat) : Int) = true := by
    unfold fracB
    rw [h4, Bool.and_eq_true, Bool.and_eq_true, inB_iff, inB_iff]
    refine ⟨⟨?_, ?_⟩, by decide⟩
    · generalize n / Nat.gcd m n = y at h2 h3; omega
    · generalize m / Nat.gcd m n = x at h1; omega
  have e4 : mkFr (m : Int) (n : Int) = ⟨((m / Nat.gcd m n : Nat) : Int), ((n / Nat.gcd m n : Nat) : Int), true⟩ := by
    unfold mkFr
    simp only [e1, e2, e3, h5, if_true]
  rw [e4]
  refine ⟨rfl, ?_, Int.natCast_nonneg _, Int.ofNat_le.2 h1, Int.ofNat_le.2 h3, Int.ofNat_le.2 h2⟩
  show ((m / Nat.gcd m n : Nat) : Int) * (n : Int) = (m : Int) * ((n / Nat.gcd m n : Nat) : Int)
  rw [← Int.natCast_mul, ← Int.natCast_mul]
  congr 1
  obtain ⟨x, hx⟩ := Nat.gcd_dvd_left m n
  obtain ⟨y, hy⟩ := Nat.gcd_dvd_right m n
  generalize Nat.gcd m n = g at *
  rw [hx, hy, Nat.mul_div_cancel_left _ hg, Nat.mul_div_cancel_left _ hg, Nat.mul_left_comm, Nat.mul_assoc]
/-- the state behind k requests, as the program follows it -/
def stR (p : Pr) (qs : List (List Int)) (ws : List Int) (S i k : Nat) : Nat := stTo (bestR p (qs.zip ws) (qs.getD 0 []).length) S (qs.getD i []) k
structure BrF (p : Pr) (qs : List (List Int)) (ws : List Int) (S : Nat) : Prop where
  pr : PrP p
  ch : ChP p.sv.length 12 6 qs ws
  s1 : S < p.mv.length
  dr : drawB p (S : Int) qs ws = true
section
variable {p : Pr} {qs : List (List Int)} {ws : List Int} {S : Nat}
theorem BrF.of {s : Int} (h : drawB p s qs ws = true) : ∃ S : Nat, s = (S : Int) ∧ BrF p qs ws S := by
  obtain ⟨h1, h2, h3, h4⟩ := drawB_facts h
  exact ⟨s.toNat, by omega, h1, h2, by omega, by rwa [Int.toNat_of_nonneg h3]⟩
theorem BrF.gd (f : BrF p qs ws S) : Gd p qs ws (qs.getD 0 []).length := Gd.of f.pr f.ch
theorem BrF.tau (f : BrF p qs ws S) : TauB p (bestR p (qs.zip ws) (qs.getD 0 []).length) := bestR_tau f.pr.prB f.gd.cb
theorem BrF.seq (f : BrF p qs ws S) {i : Nat} (hi : i < qs.length) : (qs.getD i []).length ≤ 6 ∧ (∀ r ∈ qs.getD i [], 0 ≤ r ∧ r < (p.sv.length : Int)) ∧ (qs.getD i []).length = (qs.getD 0 []).length := by
  have hm : qs.getD i [] ∈ qs := by
    rw [List.getD_eq_getElem?_getD, List.getElem?_eq_getElem hi]
    exact List.getElem_mem _
  obtain ⟨h1, h2, h3⟩ := f.ch.2.2.2 _ hm
  exact ⟨h2, h3, h1⟩
theorem BrF.st (f : BrF p qs ws S) {i k : Nat} (hi : i < qs.length) (hk : k ≤ (qs.getD i []).length) : stR p qs ws S i k < p.mv.length := stTo_lt f.tau f.s1 (f.seq hi).2.1 k hk
theorem BrF.req (f : BrF p qs ws S) {i k : Nat} (hi : i < qs.length) (hk : k < (qs.getD i []).length) : ∃ r : Nat, (qs.getD i []).getD k 0 = (r : Int) ∧ r < p.sv.length ∧ okA p r (stR p qs ws S i (k + 1)) = true := by
  have hm : (qs.getD i []).getD k 0 ∈ qs.getD i [] := by
    rw [List.getD_eq_getElem?_getD (l := qs.getD i []), List.getElem?_eq_getElem hk]
    exact List.getElem_mem _
  obtain ⟨h1, h2⟩ := (f.seq hi).2.1 _ hm
  obtain ⟨r, hr⟩ : ∃ r : Nat, (qs.getD i []).getD k 0 = (r : Int) := ⟨((qs.getD i []).getD k 0).toNat, by omega⟩
  refine ⟨r, hr, by omega, ?_⟩
  have ht : (qs.getD i []).take (k + 1) = (qs.getD i []).take k ++ [(r : Int)] := by
    rw [List.take_add_one, List.getElem?_eq_getElem hk]
    rw [List.getD_eq_getElem?_getD (l := qs.getD i []), List.getElem?_eq_getElem hk] at hr
    simp only [Option.getD_some] at hr
    rw [hr]; rfl
  have h3 := f.tau (stR p qs ws S i k) ((qs.getD i []).take k) r (f.st hi (Nat.le_of_lt hk)) (by omega)
  unfold stR stTo
  rw [ht]
  exact h3.2
theorem BrF.step (f : BrF p qs ws S) {i k : Nat} (hi : i < qs.length) (hk : k < (qs.getD i []).length) : 0 ≤ mvA p (stR p qs ws S i k) (stR p qs ws S i (k + 1)) + svA p ((qs.getD i []).getD k 0).toNat (stR p qs ws S i (k + 1)) ∧
    mvA p (stR p qs ws S i k) (stR p qs ws S i (k + 1)) + svA p ((qs.getD i []).getD k 0).toNat (stR p qs ws S i (k + 1)) ≤ 119 := by
  obtain ⟨r, h1, h2, h3⟩ := f.req hi hk
  rw [h1, Int.toNat_natCast]
  exact f.gd.cs (f.st hi (Nat.le_of_lt hk)) (f.st hi hk) h2 h3
theorem BrF.wt (f : BrF p qs ws S) {i : Nat} (hi : i < qs.length) : 1 ≤ ws.getD i 0 ∧ ws.getD i 0 ≤ 9 := ch_get f.ch i (by rw [f.gd.len]; exact hi)
end
theorem sumTo_shiftR (g : Nat → Int) : ∀ m, sumTo g (m + 1) = g 0 + sumTo (fun i => g (i + 1)) m
  | 0 => by simp [sumTo]
  | m + 1 => by
    have ih := sumTo_shiftR g m
    have e1 : sumTo g (m + 1 + 1) = sumTo g (m + 1) + g (m + 1) := rfl
    have e2 : sumTo (fun i => g (i + 1)) (m + 1) = sumTo (fun i => g (i + 1)) m + g (m + 1) := rfl
    omega
end Go.Proofs.YtndhijckbponkaaGreat
