import Derived.Test.YtndhijckbponkaaPq
import Derived.Test.YtndhijckbponkaaJi
import Derived.Test.YtndhijckbponkaaJg
/- FnBestReply, plain -/
namespace Go.Proofs.Ytndhijckbponkaa

/-- a Frac made of small numbers -/
theorem mkFr_fine {a b : Int} (ha : 0 ≤ a ∧ a ≤ 100000000) (hb : 1 ≤ b ∧ b ≤ 100000) : (mkFr a b).ok = true ∧ (mkFr a b).num * b = a * (mkFr a b).den ∧ 0 ≤ (mkFr a b).num ∧ (mkFr a b).num ≤ a ∧ 1 ≤ (mkFr a b).den ∧ (mkFr a b).den ≤ b := by
  obtain ⟨m, rfl⟩ := Int.eq_ofNat_of_zero_le ha.1
  obtain ⟨n, rfl⟩ := Int.eq_ofNat_of_zero_le (show 0 ≤ b by omega)
  have hn : 0 < n := by omega
  have hg : 0 < Nat.gcd m n := Nat.gcd_pos_of_pos_right _ hn
  have e1 : gcdI (absI (m : Int)) (n : Int) = ((Nat.gcd m n : Nat) : Int) := by
    unfold gcdI absI
    rw [Int.natAbs_natCast, Int.gcd_natCast_natCast]
  have e2 : ((m : Int)).tdiv ((Nat.gcd m n : Nat) : Int) = ((m / Nat.gcd m n : Nat) : Int) := by
    rw [Int.tdiv_eq_ediv_of_nonneg (Int.natCast_nonneg _), Int.natCast_ediv]
  have e3 : ((n : Int)).tdiv ((Nat.gcd m n : Nat) : Int) = ((n / Nat.gcd m n : Nat) : Int) := by
    rw [Int.tdiv_eq_ediv_of_nonneg (Int.natCast_nonneg _), Int.natCast_ediv]
  have h1 : m / Nat.gcd m n ≤ m := Nat.div_le_self _ _
  have h2 : n / Nat.gcd m n ≤ n := Nat.div_le_self _ _
  have h3 : 0 < n / Nat.gcd m n := Nat.div_pos (Nat.le_of_dvd hn (Nat.gcd_dvd_right m n)) hg
  have h4 : gcdI (absI ((m / Nat.gcd m n : Nat) : Int)) ((n / Nat.gcd m n : Nat) : Int) = 1 := by
    unfold gcdI absI
    rw [Int.natAbs_natCast, Int.gcd_natCast_natCast, Nat.coprime_div_gcd_div_gcd hg]
    rfl
  have h5 : fracB ((m / Nat.gcd m n : Nat) : Int) ((n / Nat.gcd m n : Nat) : Int) = true := by
    unfold fracB
    rw [h4, Bool.and_eq_true, Bool.and_eq_true, inB_iff, inB_iff]
    refine ⟨⟨?_, ?_⟩, by decide⟩
    · generalize n / Nat.gcd m n = y at h2 h3; omega
    · generalize m / Nat.gcd m n = x at h1; omega
  have e4 : mkFr (m : Int) (n : Int) = ⟨((m / Nat.gcd m n : Nat) : Int), ((n / Nat.gcd m n : Nat) : Int), true⟩ := by
    unfold mkFr
    simp only [e1, e2, e3, h5, if_true]
  rw [e4]
  refine ⟨rfl, ?_, Int.natCast_nonneg _, Int.ofNat_le.2 h1, Int.ofNat_le.2 h3, Int.ofNat_le.2 h2⟩
  show ((m / Nat.gcd m n : Nat) : Int) * (n : Int) = (m : Int) * ((n / Nat.gcd m n : Nat) : Int)
  rw [← Int.natCast_mul, ← Int.natCast_mul]
  congr 1
  obtain ⟨x, hx⟩ := Nat.gcd_dvd_left m n
  obtain ⟨y, hy⟩ := Nat.gcd_dvd_right m n
  generalize Nat.gcd m n = g at *
  rw [hx, hy, Nat.mul_div_cancel_left _ hg, Nat.mul_div_cancel_left _ hg, Nat.mul_left_comm, Nat.mul_assoc]
theorem wS_pos {k L : Nat} : ∀ {cs : Chs}, ChB k L cs → ∀ {q : List Int} {w : Int} {seen : List Int}, (q, w) ∈ cs → seen.isPrefixOf q = true → 0 < wS cs seen
  | [], _, _, _, _, h, _ => by cases h
  | (q', w') :: cs, hc, q, w, seen, h, hp => by
    have hc' : ChB k L cs := fun x hx => hc x (List.mem_cons_of_mem _ hx)
    have h1 := (hc (q', w') (List.mem_cons_self ..)).2.2
    have h2 := wS_nn hc' seen
    simp only at h1
    rcases List.mem_cons.1 h with e | e
    · rw [Prod.mk.injEq] at e
      obtain ⟨rfl, rfl⟩ := e
      rw [wS, if_pos hp]; omega
    · have h3 := wS_pos hc' e hp
      rw [wS]
      split <;> omega
theorem zip_at {qs : List (List Int)} {ws : List Int} (hl : ws.length = qs.length) {i : Nat} (hi : i < qs.length) : (qs.getD i [], ws.getD i 0) ∈ qs.zip ws := by
  rw [List.getD_eq_getElem?_getD, List.getD_eq_getElem?_getD, List.getElem?_eq_getElem hi, List.getElem?_eq_getElem (by omega : i < ws.length)]
  simp only [Option.getD_some]
  have hz : i < (qs.zip ws).length := by rw [List.length_zip]; omega
  have := List.getElem_mem hz
  rwa [List.getElem_zip] at this
/-- the state behind k requests, as the program follows it -/
def stR (p : Pr) (qs : List (List Int)) (ws : List Int) (S i k : Nat) : Nat := stTo (bestR p (qs.zip ws) (qs.getD 0 []).length) S (qs.getD i []) k
def coR (p : Pr) (qs : List (List Int)) (ws : List Int) (S i k : Nat) : Int := coTo p (bestR p (qs.zip ws) (qs.getD 0 []).length) S (qs.getD i []) k
def paidR (p : Pr) (qs : List (List Int)) (ws : List Int) (S i : Nat) : Int := sumTo (fun a => ws.getD a 0 * coR p qs ws S a (qs.getD a []).length) i
structure BrF (p : Pr) (qs : List (List Int)) (ws : List Int) (S : Nat) : Prop where
  pr : PrP p
  ch : ChP p.sv.length 12 6 qs ws
  s1 : S < p.mv.length
  dr : drawB p (S : Int) qs ws = true
section
variable {p : Pr} {qs : List (List Int)} {ws : List Int} {S : Nat}
theorem BrF.of {s : Int} (h : drawB p s qs ws = true) : ∃ S : Nat, s = (S : Int) ∧ BrF p qs ws S := by
  obtain ⟨h1, h2, h3, h4⟩ := drawB_facts h
  exact ⟨s.toNat, by omega, h1, h2, by omega, by rwa [Int.toNat_of_nonneg h3]⟩
theorem BrF.gd (f : BrF p qs ws S) : Gd p qs ws (qs.getD 0 []).length := Gd.of f.pr f.ch
theorem BrF.tau (f : BrF p qs ws S) : TauB p (bestR p (qs.zip ws) (qs.getD 0 []).length) := bestR_tau f.pr.prB f.gd.cb
theorem BrF.seq (f : BrF p qs ws S) {i : Nat} (hi : i < qs.length) : (qs.getD i []).length ≤ 6 ∧ (∀ r ∈ qs.getD i [], 0 ≤ r ∧ r < (p.sv.length : Int)) ∧ (qs.getD i []).length = (qs.getD 0 []).length := by
  have hm : qs.getD i [] ∈ qs := by
    rw [List.getD_eq_getElem?_getD, List.getElem?_eq_getElem hi]
    exact List.getElem_mem _
  obtain ⟨h1, h2, h3⟩ := f.ch.2.2.2 _ hm
  exact ⟨h2, h3, h1⟩
theorem BrF.st (f : BrF p qs ws S) {i k : Nat} (hi : i < qs.length) (hk : k ≤ (qs.getD i []).length) : stR p qs ws S i k < p.mv.length := stTo_lt f.tau f.s1 (f.seq hi).2.1 k hk
theorem BrF.req (f : BrF p qs ws S) {i k : Nat} (hi : i < qs.length) (hk : k < (qs.getD i []).length) : ∃ r : Nat, (qs.getD i []).getD k 0 = (r : Int) ∧ r < p.sv.length ∧ okA p r (stR p qs ws S i (k + 1)) = true := by
  have hm : (qs.getD i []).getD k 0 ∈ qs.getD i [] := by
    rw [List.getD_eq_getElem?_getD (l := qs.getD i []), List.getElem?_eq_getElem hk]
    exact List.getElem_mem _
  obtain ⟨h1, h2⟩ := (f.seq hi).2.1 _ hm
  obtain ⟨r, hr⟩ : ∃ r : Nat, (qs.getD i []).getD k 0 = (r : Int) := ⟨((qs.getD i []).getD k 0).toNat, by omega⟩
  refine ⟨r, hr, by omega, ?_⟩
  have ht : (qs.getD i []).take (k + 1) = (qs.getD i []).take k ++ [(r : Int)] := by
    rw [List.take_add_one, List.getElem?_eq_getElem hk]
    rw [List.getD_eq_getElem?_getD (l := qs.getD i []), List.getElem?_eq_getElem hk] at hr
    simp only [Option.getD_some] at hr
    rw [hr]; rfl
  have h3 := f.tau (stR p qs ws S i k) ((qs.getD i []).take k) r (f.st hi (Nat.le_of_lt hk)) (by omega)
  unfold stR stTo
  rw [ht]
  exact h3.2
theorem BrF.step (f : BrF p qs ws S) {i k : Nat} (hi : i < qs.length) (hk : k < (qs.getD i []).length) : 0 ≤ mvA p (stR p qs ws S i k) (stR p qs ws S i (k + 1)) + svA p ((qs.getD i []).getD k 0).toNat (stR p qs ws S i (k + 1)) ∧
    mvA p (stR p qs ws S i k) (stR p qs ws S i (k + 1)) + svA p ((qs.getD i []).getD k 0).toNat (stR p qs ws S i (k + 1)) ≤ 119 := by
  obtain ⟨r, h1, h2, h3⟩ := f.req hi hk
  rw [h1, Int.toNat_natCast]
  exact f.gd.cs (f.st hi (Nat.le_of_lt hk)) (f.st hi hk) h2 h3
theorem BrF.wt (f : BrF p qs ws S) {i : Nat} (hi : i < qs.length) : 1 ≤ ws.getD i 0 ∧ ws.getD i 0 ≤ 9 := ch_get f.ch i (by rw [f.gd.len]; exact hi)
end
theorem sumTo_shiftR (g : Nat → Int) : ∀ m, sumTo g (m + 1) = g 0 + sumTo (fun i => g (i + 1)) m
  | 0 => by simp [sumTo]
  | m + 1 => by
    have ih := sumTo_shiftR g m
    have e1 : sumTo g (m + 1 + 1) = sumTo g (m + 1) + g (m + 1) := rfl
    have e2 : sumTo (fun i => g (i + 1)) (m + 1) = sumTo (fun i => g (i + 1)) m + g (m + 1) := rfl
    omega
theorem sumS_to (p : Pr) (τ : Nat → List Int → Nat) (s : Nat) : ∀ (qs : List (List Int)) (ws : List Int), ws.length = qs.length → sumTo (fun a => ws.getD a 0 * coTo p τ s (qs.getD a []) (qs.getD a []).length) qs.length = sumS p τ s (qs.zip ws)
  | [], [], _ => rfl
  | q :: qs, w :: ws, h => by
    have ih := sumS_to p τ s qs ws (by simpa using h)
    rw [List.length_cons, sumTo_shiftR, List.zip_cons_cons, sumS, ← ih, ← co_all]
    rfl
theorem wS_sumR : ∀ (qs : List (List Int)) (ws : List Int), ws.length = qs.length → wS (qs.zip ws) [] = sumW ws
  | [], [], _ => rfl
  | q :: qs, w :: ws, h => by
    have ih := wS_sumR qs ws (by simpa using h)
    rw [List.zip_cons_cons, wS, if_pos (by simp [List.isPrefixOf]), ih]
    unfold sumW
    rw [List.length_cons, sumTo_shiftR]
    rfl
/-- the law -/
theorem reply_law {p : Pr} {qs : List (List Int)} {ws : List Int} {S : Nat} (f : BrF p qs ws S) :
    (bexV p (S : Int) qs ws).ok = true ∧ (bexV p (S : Int) qs ws).num * sumW ws = paidR p qs ws S qs.length * (bexV p (S : Int) qs ws).den ∧ 0 ≤ (bexV p (S : Int) qs ws).num ∧ (bexV p (S : Int) qs ws).num ≤ 77112 ∧ 1 ≤ (bexV p (S : Int) qs ws).den ∧ (bexV p (S : Int) qs ws).den ≤ 108 ∧ 1 ≤ sumW ws ∧ sumW ws ≤ 108 := by
  have g := f.gd
  have h1 := g.ah (n := (qs.getD 0 []).length) g.l6 f.s1 []
  have h2 : paidR p qs ws S qs.length = ahead p (qs.zip ws) (qs.getD 0 []).length S [] := by
    have e1 := sumS_to p (bestR p (qs.zip ws) (qs.getD 0 []).length) S qs ws g.len
    rw [← reply_sum f.pr.prB g.cb f.s1, ← e1]
    rfl
  have h3 : 1 ≤ sumW ws ∧ sumW ws ≤ 108 := by
    rw [← wS_sumR qs ws g.len]
    refine ⟨?_, g.wle []⟩
    have := wS_pos g.cb (zip_at g.len g.q0.1) (seen := []) (by simp [List.isPrefixOf])
    omega
  have h4 := mkFr_fine (a := ahead p (qs.zip ws) (qs.getD 0 []).length S []) (b := sumW ws) (by omega) (by omega)
  unfold bexV
  rw [f.dr, if_pos rfl, Int.toNat_natCast, h2]
  obtain ⟨q1, q2, q3, q4, q5, q6⟩ := h4
  exact ⟨q1, q2, q3, by omega, q5, by omega, h3.1, h3.2⟩
end Go.Proofs.Ytndhijckbponkaa
