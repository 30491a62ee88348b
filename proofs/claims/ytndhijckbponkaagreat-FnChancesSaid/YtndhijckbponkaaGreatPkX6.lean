import Derived.Test.YtndhijckbponkaaGreatJa
import Derived.Test.YtndhijckbponkaaGreatPkX1
import Derived.Test.YtndhijckbponkaaGreatDat
import Derived.Test.YtndhijckbponkaaGreatFr
import Derived.Test.YtndhijckbponkaaGreatPkX3
import Derived.Test.YtndhijckbponkaaGreatPkX4
/- how large the expected costs get, plain -/
namespace Go.Proofs.YtndhijckbponkaaGreat

theorem sumK_ind (x : Int) (w : Int) (hw : 0 ≤ w) (k : Nat) : sumK (fun r => if (r : Int) = x then w else 0) k ≤ w := by
  induction k with
  | zero => simpa [sumK] using hw
  | succ k ih =>
    simp only [sumK]
    by_cases e : (k : Int) = x
    · rw [if_pos e]
      have : sumK (fun r => if (r : Int) = x then w else 0) k = 0 := by
        rw [sumK_congr (g := fun _ => 0) k (fun r hr => by rw [if_neg (by omega)]), sumK_zero]
      omega
    · rw [if_neg e]; omega
theorem wS_split {k L : Nat} (seen : List Int) (m : Nat) : ∀ {cs : Chs}, ChB k L cs → sumK (fun r => wS cs (seen ++ [(r : Int)])) m ≤ wS cs seen
  | [], _ => by rw [sumK_congr (g := fun _ => 0) m (fun r _ => by simp [wS]), sumK_zero]; simp [wS]
  | (q, w) :: cs, h => by
    have ih := wS_split (k := k) (L := L) seen m (cs := cs) (fun x hx => h x (List.mem_cons_of_mem _ hx))
    have hw := (h (q, w) (List.mem_cons_self ..)).2.2
    simp only at hw
    have e : sumK (fun r => wS ((q, w) :: cs) (seen ++ [(r : Int)])) m = sumK (fun r => if (seen ++ [(r : Int)]).isPrefixOf q then w else 0) m + sumK (fun r => wS cs (seen ++ [(r : Int)])) m := by
      rw [← sumK_add]; exact sumK_congr m (fun r _ => rfl)
    rw [e]
    simp only [wS]
    have h1 : sumK (fun r => if (seen ++ [(r : Int)]).isPrefixOf q then w else 0) m ≤ if seen.isPrefixOf q then w else 0 := by
      cases hp : seen.isPrefixOf q
      · rw [sumK_congr (g := fun _ => 0) m (fun r _ => by rw [prefix_snoc_no hp]; rfl), sumK_zero]; simp
      · by_cases hl : seen.length < q.length
        · refine Int.le_trans (sumK_le (g := fun r => if (r : Int) = q.getD seen.length 0 then w else 0) m (fun r _ => ?_)) (by simpa using sumK_ind (q.getD seen.length 0) w (Int.le_of_lt hw) m)
          cases e : (seen ++ [(r : Int)]).isPrefixOf q
          · simp only [Bool.false_eq_true, if_false]
            split
            · omega
            · exact Int.le_refl _
          · have := (prefix_snoc hp hl).1 e
            rw [if_pos this.symm]; simp
        · rw [sumK_congr (g := fun _ => 0) m (fun r _ => by
            cases e : (seen ++ [(r : Int)]).isPrefixOf q
            · rfl
            · rw [List.isPrefixOf_iff_prefix] at e
              have := e.length_le
              rw [List.length_append] at this
              simp at this; omega), sumK_zero]
          simp; omega
    omega
/-- at most C for each request, times the weights -/
theorem ahead_bound {p : Pr} (hp : PrB p) {cs : Chs} {L : Nat} (hc : ChB p.sv.length L cs) {C : Int} (hC : 0 ≤ C) (hb : ∀ a b r, a < p.mv.length → b < p.mv.length → r < p.sv.length → mvA p a b + svA p r b ≤ C) : ∀ (n s : Nat) (seen : List Int), s < p.mv.length → ahead p cs n s seen ≤ C * n * wS cs seen
  | 0, s, seen, _ => by simp [ahead]
  | n + 1, s, seen, hs => by
    have hsp := wS_split (k := p.sv.length) (L := L) seen p.sv.length hc
    have h1 : ahead p cs (n + 1) s seen ≤ sumK (fun r => C * ((n : Int) + 1) * wS cs (seen ++ [(r : Int)])) p.sv.length := by
      unfold ahead
      refine sumK_le _ (fun r hr => ?_)
      split
      · obtain ⟨h2, _, h4, _⟩ := reply_spec hp hc n s (seen ++ [(r : Int)]) r hs hr
        rw [h4]
        generalize (bl (okA p r) (fun s' => wS cs (seen ++ [(r : Int)]) * (mvA p s s' + svA p r s') + ahead p cs n s' (seen ++ [(r : Int)])) p.mv.length).1 = x at h2
        have h5 := ahead_bound hp hc hC hb n x (seen ++ [(r : Int)]) h2
        have h6 := Int.mul_le_mul_of_nonneg_left (hb s x r hs h2 hr) (wS_nn hc (seen ++ [(r : Int)]))
        have h7 : C * ((n : Int) + 1) * wS cs (seen ++ [(r : Int)]) = C * n * wS cs (seen ++ [(r : Int)]) + wS cs (seen ++ [(r : Int)]) * C := by
          rw [Int.mul_add, Int.add_mul, Int.mul_one, Int.mul_comm C (wS cs _)]
        omega
      · have h0 := wS_nn hc (seen ++ [(r : Int)])
        exact Int.mul_nonneg (Int.mul_nonneg hC (by omega)) h0
    have h2 : sumK (fun r => C * ((n : Int) + 1) * wS cs (seen ++ [(r : Int)])) p.sv.length = C * ((n : Int) + 1) * sumK (fun r => wS cs (seen ++ [(r : Int)])) p.sv.length := by
      generalize p.sv.length = k
      induction k with
      | zero => simp [sumK]
      | succ k ih => simp only [sumK]; rw [ih]; exact (Int.mul_add _ _ _).symm
    have h3 := Int.mul_le_mul_of_nonneg_left hsp (Int.mul_nonneg hC (show (0 : Int) ≤ (n : Int) + 1 by omega))
    push_cast
    omega
end Go.Proofs.YtndhijckbponkaaGreat

/- valid metrics, problems, chances: what the two sides' tests say (plain) -/
namespace Go.Proofs.YtndhijckbponkaaGreat

def cellA (d : List (List Int)) (x y : Nat) : Int := (d.getD x []).getD y 0
/-- a valid Metric -/
def MetP (d : List (List Int)) : Prop := (1 ≤ d.length ∧ d.length ≤ 6) ∧ (∀ x, x < d.length → (d.getD x []).length = d.length) ∧
  (∀ x y, x < d.length → y < d.length → cellA d x y = cellA d y x ∧ (x = y → cellA d x y = 0) ∧ (x ≠ y → 1 ≤ cellA d x y ∧ cellA d x y ≤ 99)) ∧
  ∀ x y z, x < d.length → y < d.length → z < d.length → cellA d x z ≤ cellA d x y + cellA d y z
/-- a valid Problem -/
def PrP (p : Pr) : Prop := (1 ≤ p.mv.length ∧ p.mv.length ≤ 4) ∧ MetP p.mv ∧ (1 ≤ p.sv.length ∧ p.sv.length ≤ 4) ∧
  ∀ r, r < p.sv.length → (p.sv.getD r []).length = p.mv.length ∧ (∀ s, s < p.mv.length → -1 ≤ svA p r s ∧ svA p r s ≤ 20) ∧ ∃ s, s < p.mv.length ∧ 0 ≤ svA p r s
theorem PrP.mv_in {p : Pr} (h : PrP p) {a b : Nat} (ha : a < p.mv.length) (hb : b < p.mv.length) : 0 ≤ mvA p a b ∧ mvA p a b ≤ 99 := by
  obtain ⟨_, h2, h3⟩ := h.2.1.2.2.1 a b ha hb
  show 0 ≤ cellA p.mv a b ∧ cellA p.mv a b ≤ 99
  by_cases e : a = b
  · rw [h2 e]; omega
  · have := h3 e; omega
theorem PrP.prB {p : Pr} (h : PrP p) : PrB p := by
  refine ⟨fun a b ha hb => (h.mv_in ha hb).1, fun r hr => ?_⟩
  obtain ⟨_, _, s, hs, h0⟩ := h.2.2.2 r hr
  exact ⟨s, hs, by unfold okA; simpa using h0⟩
theorem PrP.diag {p : Pr} (h : PrP p) : ∀ s, s < p.mv.length → mvA p s s = 0 := fun s hs => (h.2.1.2.2.1 s s hs hs).2.1 rfl
theorem PrP.cost {p : Pr} (h : PrP p) : ∀ a b r, a < p.mv.length → b < p.mv.length → r < p.sv.length → mvA p a b + svA p r b ≤ 119 := fun a b r ha hb hr => by
  have h1 := (h.mv_in ha hb).2
  have h2 := ((h.2.2.2 r hr).2.1 b hb).2
  omega
/-- valid Chances -/
def ChP (k maxN maxL : Nat) (qs : List (List Int)) (ws : List Int) : Prop := (1 ≤ qs.length ∧ qs.length ≤ maxN) ∧ ws.length = qs.length ∧ (∀ w ∈ ws, 1 ≤ w ∧ w ≤ 9) ∧
  ∀ q ∈ qs, q.length = (qs.getD 0 []).length ∧ q.length ≤ maxL ∧ ∀ r ∈ q, 0 ≤ r ∧ r < (k : Int)
theorem ChP.chB {k maxN maxL : Nat} {qs : List (List Int)} {ws : List Int} (h : ChP k maxN maxL qs ws) : ChB k (qs.getD 0 []).length (qs.zip ws) := fun x hx => by
  obtain ⟨_, _, h3, h4⟩ := h
  obtain ⟨h5, h6⟩ := List.of_mem_zip (a := x.1) (b := x.2) hx
  obtain ⟨h7, _, h8⟩ := h4 _ h5
  have := h3 _ h6
  exact ⟨h7, h8, by omega⟩
theorem ChP.len {k maxN maxL : Nat} {qs : List (List Int)} {ws : List Int} (h : ChP k maxN maxL qs ws) : (qs.getD 0 []).length ≤ maxL := by
  obtain ⟨⟨h1, _⟩, _, _, h4⟩ := h
  have hm : qs.getD 0 [] ∈ qs := by
    rw [List.getD_eq_getElem?_getD, List.getElem?_eq_getElem (by omega : 0 < qs.length)]
    exact List.getElem_mem _
  exact (h4 _ hm).2.1
theorem wS_le9 : ∀ (qs : List (List Int)) (ws : List Int) (seen : List Int), (∀ w ∈ ws, 1 ≤ w ∧ w ≤ 9) → wS (qs.zip ws) seen ≤ 9 * (qs.length : Int)
  | [], _, _, _ => by simp [wS]
  | q :: qs, [], _, _ => by simp [wS]; omega
  | q :: qs, w :: ws, seen, h => by
    have ih := wS_le9 qs ws seen (fun x hx => h x (List.mem_cons_of_mem _ hx))
    have hw := h w (List.mem_cons_self ..)
    simp only [List.zip_cons_cons, wS, List.length_cons]
    push_cast
    split <;> omega
end Go.Proofs.YtndhijckbponkaaGreat

/- the program's search for the least, which begins with a far number, plain -/
namespace Go.Proofs.YtndhijckbponkaaGreat

def blI (ok : Nat → Bool) (f : Nat → Int) (far : Int) : Nat → Int × Int
  | 0 => (-1, far)
  | m + 1 => if ok m && decide (f m < (blI ok f far m).2) then ((m : Int), f m) else blI ok f far m
theorem blI_eq {ok : Nat → Bool} {f : Nat → Int} {far : Int} (m : Nat) (hf : ∀ s, s < m → ok s = true → 0 ≤ f s ∧ f s < far) :
    ((∀ s, s < m → ok s = false) ∧ blI ok f far m = (-1, far) ∧ bl ok f m = (0, -1)) ∨ ((∃ s, s < m ∧ ok s = true) ∧ 0 ≤ (bl ok f m).2 ∧ blI ok f far m = (((bl ok f m).1 : Int), (bl ok f m).2)) := by
  induction m with
  | zero => exact .inl ⟨fun s hs => absurd hs (Nat.not_lt_zero s), rfl, rfl⟩
  | succ m ih =>
    have ih := ih (fun s hs hok => hf s (by omega) hok)
    unfold blI bl
    cases hk : ok m
    · simp only [Bool.false_and, Bool.false_eq_true, if_false]
      rcases ih with ⟨h1, h2, h3⟩ | ⟨⟨x, hx, hxo⟩, h2, h3⟩
      · refine .inl ⟨fun s hs => ?_, h2, h3⟩
        by_cases e : s = m
        · subst e; exact hk
        · exact h1 s (by omega)
      · exact .inr ⟨⟨x, by omega, hxo⟩, h2, h3⟩
    · obtain ⟨g1, g2⟩ := hf m (by omega) hk
      simp only [Bool.true_and]
      rcases ih with ⟨h1, h2, h3⟩ | ⟨⟨x, hx, hxo⟩, h2, h3⟩
      · rw [h2, h3]
        simp only
        rw [if_pos (by simpa using g2), if_pos (by simp)]
        exact .inr ⟨⟨m, by omega, hk⟩, g1, rfl⟩
      · rw [h3]
        simp only
        have hn : ¬ (bl ok f m).2 < 0 := by omega
        by_cases hc : f m < (bl ok f m).2
        · rw [if_pos (by simpa using hc), if_pos (by simp [hc])]
          exact .inr ⟨⟨m, by omega, hk⟩, g1, rfl⟩
        · rw [if_neg (by simpa using hc), if_neg (by simp [hc, hn])]
          exact .inr ⟨⟨x, by omega, hxo⟩, h2, rfl⟩
end Go.Proofs.YtndhijckbponkaaGreat

/- what the laws' helpers do with a Cache: its size, copy, compare, mark, look whether the mark is held -/
namespace Go.Proofs.YtndhijckbponkaaGreat
open Go.RowKit

/-- the new lists behind a store to a box of one's own -/
theorem OI.far {base : Nat} {w : World} {v : Value} {l : List Int} (h : OI base w v l) {b : Nat} (hb : b < base) (o : Nat) (x : Value) : OI base (w.setCell ⟨b, o, none⟩ x) v l :=
  h.set b o x (fun hq => by have := (h.lt b hq).1; omega)
end Go.Proofs.YtndhijckbponkaaGreat

/- lists that are the same; caches that are the same -/
namespace Go.Proofs.YtndhijckbponkaaGreat
open Go.RowKit

theorem drewN_chg (w : World) (n : Nat) : Chg No w (w.drewN n) := (Chg.refl No w).drewN n
theorem Equal_any (A B : Nat → Prop) (v v' : Value) (l l' : List Int) (w : World) (h : RI A w v l) (h' : RI B w v' l') :
    Calls Tryz.prog 154 #[v, v'] w (Ret fun r w' => r = .bool (l == l') ∧ Chg No w w') := by
  have hL := h.len
  have hL' := h'.len
  obtain ⟨a, cap, rfl, hcap, hmax, hlen, _, hc⟩ := id h
  obtain ⟨a', cap', rfl, hcap', hmax', hlen', _, hc'⟩ := id h'
  by_cases hll : l.length = l'.length
  · by_cases hl0 : l = []
    · subst hl0
      have hl' : l' = [] := List.eq_nil_of_length_eq_zero (by simpa using hll.symm)
      subst hl'
      refine (Tryz.slices_Equal_int_empty a a' cap 0 cap' w (by omega)).mono ?_
      rintro e w' ⟨rfl, rfl⟩
      exact ⟨_, rfl, rfl, Chg.refl _ _⟩
    · have hl0' : l' ≠ [] := fun e => hl0 (List.eq_nil_of_length_eq_zero (by rw [hll, e]; rfl))
      obtain ⟨b, off, rfl, _, _, hcell⟩ := hc hl0
      obtain ⟨b', off', rfl, _, _, hcell'⟩ := hc' hl0'
      refine (Tryz.slices_Equal_int b off l.length cap b' off' l'.length cap' l l' w (Nat.le_refl _) (Nat.le_refl _) (by omega) (by omega) hcell hcell').mono ?_
      rintro e w' ⟨rfl, q, rfl⟩
      exact ⟨_, rfl, by rw [List.take_length, List.take_length], drewN_chg w q⟩
  · refine (Tryz.slices_Equal_int_lens a a' l.length cap l'.length cap' w hll).mono ?_
    rintro e w' ⟨rfl, rfl⟩
    refine ⟨_, rfl, ?_, Chg.refl _ _⟩
    have : (l == l') = false := by rw [beq_eq_false_iff_ne]; exact fun e => hll (by rw [e])
    rw [this]

set_option maxRecDepth 100000 in
set_option maxHeartbeats 1000000 in
theorem l1Same_any (A B : Nat → Prop) (v v' : Value) (l l' : List Int) (w : World) (h : RI A w v l) (h' : RI B w v' l') :
    Calls Tryz.prog 174 #[v, v'] w (Ret fun r w' => r = .bool (l == l') ∧ Chg No w w') := by
  have hL := h.len
  have hL' := h'.len
  obtain ⟨a, cap, rfl, hcap, hmax, hlen, _, hc⟩ := id h
  obtain ⟨a', cap', rfl, hcap', hmax', hlen', _, hc'⟩ := id h'
  by_cases hll : l.length = l'.length
  · have HL := Lib.hid hll
    rw [← hll] at hc' ⊢
    clear hll hcap' hmax' hlen' hL' h h'
    go_enter Tryz.func174, Tryz.ntmps174
    go_wp2_with fail
    go_loopw [5] (fun i wr => ∃ j : Nat, j ≤ l.length ∧ i = .int .i64 j ∧ Hid (∀ q, q < j → l.getD q 0 = l'.getD q 0) ∧ Chg No w wr) (fun i _ => l.length - (intOf i).toNat)
    case atStart => exact ⟨0, Nat.zero_le _, rfl, Lib.hid (fun q hq => absurd hq (Nat.not_lt_zero _)), Chg.refl No w⟩
    case round =>
      obtain ⟨j, hj, rfl, HS, hch⟩ := hrel
      by_cases hlt : j < l.length
      · obtain ⟨b, off, rfl, _, hb, hcell⟩ := hc (by intro e; simp [e] at hlt)
        obtain ⟨b', off', rfl, _, hb', hcell'⟩ := hc' (by intro e; have := HL.out; rw [e] at this; simp only [List.length_nil] at this; omega)
        have hcl := (hch.cellD b (off + j) hb (fun e => e)).trans (hcell j hlt)
        have hcl' := (hch.cellD b' (off' + j) hb' (fun e => e)).trans (hcell' j hlt)
        obtain ⟨y, hy⟩ : ∃ y, l.getD j 0 = y := ⟨_, rfl⟩
        obtain ⟨z, hz⟩ : ∃ z, l'.getD j 0 = z := ⟨_, rfl⟩
        rw [hy] at hcl
        rw [hz] at hcl'
        have HY := Lib.hid hy
        have HZ := Lib.hid hz
        have hj0 : (0 : Int) ≤ (j : Int) := Int.natCast_nonneg _
        have hj1 : (j : Int) < (l.length : Int) := by omega
        have hw1 : IntKind.i64.wrap ((j : Int) + 1) = (j : Int) + 1 := IntWalk.i64_in _ (by omega)
        clear hcell hcell' hc hc' hy hz
        by_cases hyz : y = z
        · subst hyz
          go_wp2_with fail
          go_quiet (fail)
          have hd := (Chg.refl No wr).drewN nq
          have hch := hch.keep hd
          clear hcl hcl'
          generalize wr.drewN nq = W at hd hch ⊢
          go_wp2_with fail
          go_round
          case rel =>
            refine ⟨j + 1, hlt, by go_num, Lib.hid (fun q hq => ?_), hch⟩
            by_cases hqj : q = j
            · rw [hqj, HY.out, HZ.out]
            · exact HS.out q (by omega)
          case measure => simp [intOf]; omega
        · go_wp2_with fail
          go_quiet (fail)
          have hd := (Chg.refl No wr).drewN nq
          have hch := hch.keep hd
          clear hcl hcl'
          generalize wr.drewN nq = W at hd hch ⊢
          go_wp2_with fail
          go_ret
          refine ⟨_, rfl, ?_, hch⟩
          have : (l == l') = false := by
            rw [beq_eq_false_iff_ne]
            exact fun e => hyz (by rw [← HY.out, ← HZ.out, e])
          rw [this]
          rfl
      · have hj' : j = l.length := by omega
        subst hj'
        clear hc hc'
        go_wp2_with fail
        go_ret
        refine ⟨_, rfl, ?_, hch⟩
        have : l = l' := List.ext_getElem HL.out (fun q h1 h2 => by
          have := HS.out q h1
          rwa [List.getD_eq_getElem?_getD, List.getD_eq_getElem?_getD, List.getElem?_eq_getElem h1, List.getElem?_eq_getElem h2] at this)
        rw [this]
        simp
  · have hne : ¬ ((l.length : Int) = (l'.length : Int)) := by omega
    have HE : Hid ((l == l') = false) := Lib.hid (by rw [beq_eq_false_iff_ne]; exact fun e => hll (by rw [e]))
    clear hll hc hc'
    go_enter Tryz.func174, Tryz.ntmps174
    go_wp2_with fail
    go_ret
    exact ⟨_, rfl, by rw [HE.out]; rfl, Chg.refl _ _⟩
end Go.Proofs.YtndhijckbponkaaGreat
