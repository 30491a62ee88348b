import Derived.Test.YtndhijckbponkaaGreatPkX6
import Derived.Test.YtndhijckbponkaaGreatPe
import Derived.ChangeKeysEq
/- a strategy's costs request by request, plain -/
namespace Go.Proofs.YtndhijckbponkaaGreat

def stTo (τ : Nat → List Int → Nat) (s : Nat) (q : List Int) : Nat → Nat
  | 0 => s
  | k + 1 => τ (stTo τ s q k) (q.take (k + 1))
def coTo (p : Pr) (τ : Nat → List Int → Nat) (s : Nat) (q : List Int) : Nat → Int
  | 0 => 0
  | k + 1 => coTo p τ s q k + (mvA p (stTo τ s q k) (stTo τ s q (k + 1)) + svA p (q.getD k 0).toNat (stTo τ s q (k + 1)))
theorem co_rest (p : Pr) (τ : Nat → List Int → Nat) (s : Nat) (q : List Int) : ∀ k, k ≤ q.length → coTo p τ s q k + rest p τ (stTo τ s q k) (q.take k) (q.drop k) = rest p τ s [] q
  | 0, _ => by simp [coTo, stTo]
  | k + 1, h => by
    have ih := co_rest p τ s q k (by omega)
    have hk : k < q.length := by omega
    have hd : q.drop k = q.getD k 0 :: q.drop (k + 1) := by
      rw [List.drop_eq_getElem_cons hk, List.getD_eq_getElem?_getD, List.getElem?_eq_getElem hk]; rfl
    have ht : q.take k ++ [q.getD k 0] = q.take (k + 1) := by
      rw [List.take_succ_eq_append_getElem hk, List.getD_eq_getElem?_getD, List.getElem?_eq_getElem hk]; rfl
    rw [hd] at ih
    simp only [rest, ht] at ih
    simp only [coTo]
    have e : stTo τ s q (k + 1) = τ (stTo τ s q k) (q.take (k + 1)) := rfl
    rw [e]
    omega
theorem co_all (p : Pr) (τ : Nat → List Int → Nat) (s : Nat) (q : List Int) : coTo p τ s q q.length = rest p τ s [] q := by
  have h := co_rest p τ s q q.length (Nat.le_refl _)
  rw [List.drop_length] at h
  simp only [rest] at h
  omega
theorem stTo_lt {p : Pr} {τ : Nat → List Int → Nat} (ht : TauB p τ) {s : Nat} (hs : s < p.mv.length) {q : List Int} (hq : ∀ x ∈ q, 0 ≤ x ∧ x < (p.sv.length : Int)) : ∀ k, k ≤ q.length → stTo τ s q k < p.mv.length
  | 0, _ => hs
  | k + 1, h => by
    have ih := stTo_lt ht hs hq k (by omega)
    have hk : k < q.length := by omega
    have hx : q[k] ∈ q := List.getElem_mem hk
    obtain ⟨h0, h1⟩ := hq _ hx
    obtain ⟨r, hr⟩ : ∃ r : Nat, q[k] = (r : Int) := ⟨q[k].toNat, by omega⟩
    have e : q.take (k + 1) = q.take k ++ [(r : Int)] := by rw [List.take_succ_eq_append_getElem hk, hr]
    show τ (stTo τ s q k) (q.take (k + 1)) < _
    rw [e]
    exact (ht _ _ r ih (by omega)).1
/-- an algorithm as a strategy: the state and the last request say where it goes -/
def algT (nx : List (List Int)) : Nat → List Int → Nat := fun s more => ((nx.getD s []).getD (more.getLastD 0).toNat 0).toNat
theorem algT_tau {p : Pr} {nx : List (List Int)} (h : ∀ s r, s < p.mv.length → r < p.sv.length → ∃ t : Nat, (nx.getD s []).getD r 0 = (t : Int) ∧ t < p.mv.length ∧ 0 ≤ svA p r t) : TauB p (algT nx) := fun s seen r hs hr => by
  obtain ⟨t, e, ht, hv⟩ := h s r hs hr
  have hl := last_snoc seen r
  have ee : algT nx s (seen ++ [(r : Int)]) = t := by unfold algT; rw [hl, e]; simp
  rw [ee]
  exact ⟨ht, by unfold okA; simpa using hv⟩
end Go.Proofs.YtndhijckbponkaaGreat

/- algorithms of a Problem, both sides -/
namespace Go.Proofs.YtndhijckbponkaaGreat
open Go.RowKit

def AlgC (p : Pr) (row : List Int) (r : Nat) : Prop := (0 ≤ row.getD r 0 ∧ row.getD r 0 < (p.mv.length : Int)) ∧ 0 ≤ svA p r (row.getD r 0).toNat
def AlgRow (p : Pr) (row : List Int) : Prop := row.length = p.sv.length ∧ ∀ r, r < row.length → AlgC p row r
def AlgP (p : Pr) (nx : List (List Int)) : Prop := nx.length = p.mv.length ∧ ∀ s, s < nx.length → AlgRow p (nx.getD s [])
theorem algC_in {p : Pr} {row : List Int} {r : Nat} (h : AlgC p row r) : inB (row.getD r 0) 0 ((p.mv.length : Int) - 1) = true := inB_iff.2 (by have := h.1; omega)
theorem AlgP.tau {p : Pr} {nx : List (List Int)} (h : AlgP p nx) : TauB p (algT nx) := algT_tau (fun s r hs hr => by
  obtain ⟨h1, h2⟩ := h.2 s (by rw [h.1]; exact hs)
  obtain ⟨h3, h4⟩ := h2 r (by rw [h1]; exact hr)
  exact ⟨((nx.getD s []).getD r 0).toNat, by omega, by omega, h4⟩)
theorem PrP.svq {p : Pr} (h : PrP p) {r : Nat} (hr : r < p.sv.length) : (p.sv.getD r []).length = p.mv.length := (h.2.2.2 r hr).1
set_option maxRecDepth 100000 in
set_option maxHeartbeats 2000000 in
theorem areServed_any (A B : Nat → Prop) (v rv : Value) (p : Pr) (row : List Int) (w : World) (hp : PrP p) (h : RPr A w v p) (hr : RI B w rv row) :
    Calls Tryz.prog 103 #[v, rv] w (Ret fun r w' => r = .bool (bP (AlgRow p row)) ∧ Chg No w w') := by
  have hv := h
  obtain ⟨mv, sv, rfl, hm, hs⟩ := h
  obtain ⟨ma, mc, rfl⟩ := hm.shape
  obtain ⟨sa, sc, rfl⟩ := hs.shape
  obtain ⟨ra, rc, rfl, _⟩ := id hr
  by_cases hlen : (row.length : Int) = (p.sv.length : Int)
  · have hlen' : row.length = p.sv.length := by omega
    have hbn : ((row.length : Int) != (p.sv.length : Int)) = false := by rw [hlen]; exact bne_self_eq_false _
    have HLEN := Lib.hid hlen'
    clear hlen hlen'
    go_enter Tryz.func103, Tryz.ntmps103
    go_wp2_with fail
    refine bx1 (R := fun W => Code.wp _ _ _ _ W) (fun W0 k0 b0 => ?_)
    obtain ⟨R0, hR0⟩ : ∃ R, w.heap.size = R := ⟨_, rfl⟩
    rw [hR0] at b0 ⊢
    have hm0 := hm.keep k0
    have hs0 := hs.keep k0
    have hr0 := hr.keep k0
    have hv0 := hv.keep k0
    have HP := Lib.hid hp
    have hpl : p.mv.length ≤ 4 := hp.1.2
    clear hm hs hr hv hR0 hp
    go_loopw [15] (fun z wr => ∃ j : Nat, j ≤ row.length ∧ z = .int .i64 (j : Int) ∧ Hid (∀ r, r < j → AlgC p row r) ∧ Chg No W0 wr) (fun z _ => row.length - (intOf z).toNat)
    case atStart => exact ⟨0, Nat.zero_le _, rfl, Lib.hid (fun r hr => absurd hr (Nat.not_lt_zero r)), Chg.refl _ _⟩
    case round =>
      obtain ⟨j, hj, rfl, HJ, kr⟩ := hrel
      have hj0 : (0 : Int) ≤ (j : Int) := Int.natCast_nonneg _
      have hrlen := hr0.len
      by_cases hlt : j < row.length
      · have hj1 : (j : Int) < (row.length : Int) := by omega
        have hwj : IntKind.i64.wrap ((j : Int) + 1) = (j : Int) + 1 := IntWalk.i64_in _ (by omega)
        obtain ⟨rb, ro, rfl, hrb, hrc⟩ := (hr0.keep kr).cellN hlt
        have hjs : j < p.sv.length := by have := HLEN.out; omega
        obtain ⟨x, hx⟩ : ∃ x, row.getD j 0 = x := ⟨_, rfl⟩
        have HX := Lib.hid hx
        rw [hx] at hrc
        have b0r := b0.keep kr
        have g0 := b0r.c 0 _ rfl
        have g1 := b0r.c 1 _ rfl
        clear hx
        go_wp2_with fail
        refine (isState_any A _ p x wr (hv0.keep kr)).mono ?_
        rintro e w1 ⟨_, rfl, rfl, k1⟩
        have kr1 := kr.keep k1
        cases hin : inB x 0 ((p.mv.length : Int) - 1)
        · have HB : Hid (bP (AlgRow p row) = false) := Lib.hid (bP_no (fun e => by
            have := algC_in (e.2 j hlt)
            rw [HX.out, hin] at this; cases this))
          clear hin
          go_wp2_with fail
          go_ret
          exact ⟨_, rfl, by rw [HB.out]; rfl, k0.keep kr1⟩
        · have hxin := inB_iff.1 hin
          obtain ⟨Y, rfl⟩ : ∃ Y : Nat, x = (Y : Int) := ⟨x.toNat, by omega⟩
          have hY : Y < p.mv.length := by omega
          have hY0 : (0 : Int) ≤ (Y : Int) := Int.natCast_nonneg _
          have hY1 : (Y : Int) < (p.mv.length : Int) := by omega
          have hjs1 : (j : Int) < (p.sv.length : Int) := by omega
          obtain ⟨sb, so, ta, tc, rfl, hsb, hcs, htr⟩ := (hs0.keep kr1).row hjs
          have hsl : (p.sv.getD j []).length = p.mv.length := HP.out.svq hjs
          obtain ⟨tb, to2, rfl, htb, hct⟩ := htr.cellN (j := Y) (by rw [hsl]; exact hY)
          rw [hsl] at hcs
          obtain ⟨y, hy⟩ : ∃ y, (p.sv.getD j []).getD Y 0 = y := ⟨_, rfl⟩
          rw [hy] at hct
          have HY : Hid (svA p j (row.getD j 0).toNat = y) := Lib.hid (by rw [HX.out, Int.toNat_natCast]; exact hy)
          have b1r := b0.keep kr1
          have g0 := b1r.c 0 _ rfl
          have g1 := b1r.c 1 _ rfl
          clear hin hxin hy htr hsl
          by_cases hy0 : y < 0
          · have HB : Hid (bP (AlgRow p row) = false) := Lib.hid (bP_no (fun e => by
              have := (e.2 j hlt).2
              rw [HY.out] at this; omega))
            go_wp2_with fail
            go_ret
            exact ⟨_, rfl, by rw [HB.out]; rfl, k0.keep kr1⟩
          · have HJ' : Hid (∀ r, r < j + 1 → AlgC p row r) := Lib.hid (fun r hr => by
              by_cases e : r = j
              · subst e
                exact ⟨by rw [HX.out]; omega, by rw [HY.out]; omega⟩
              · exact HJ.out r (by omega))
            go_wp2_with fail
            go_round
            case rel => exact ⟨j + 1, by omega, by go_num, HJ', kr1⟩
            case measure => simp [intOf]; omega
      · have hje : j = row.length := by omega
        subst hje
        have HB : Hid (bP (AlgRow p row) = true) := Lib.hid (bP_yes ⟨HLEN.out, HJ.out⟩)
        go_wp2_with fail
        go_ret
        exact ⟨_, rfl, by rw [HB.out]; rfl, k0.keep kr⟩
  · have HB : Hid (bP (AlgRow p row) = false) := Lib.hid (bP_no (fun e => hlen (by rw [e.1])))
    have hbn : ((row.length : Int) != (p.sv.length : Int)) = true := by rw [bne_iff_ne]; exact hlen
    go_enter Tryz.func103, Tryz.ntmps103
    go_wp2_with fail
    go_ret
    exact ⟨_, rfl, by rw [HB.out]; rfl, (Chg.refl No w).alloc _⟩
theorem cfAlg (x c0 : Value) (w : World) : (callFunc 102 #[x, c0]).run Tryz.prog w = .ok (.enter 102 #[x, c0]) w := by kernel_rfl
set_option maxRecDepth 100000 in
set_option maxHeartbeats 1000000 in
theorem isAlgorithm1_any (A B : Nat → Prop) (mv sv rv : Value) (p : Pr) (row : List Int) (b : Nat) (w : World) (hp : PrP p) (h : RPr A w (.agg #[mv, sv]) p) (hr : RI B w rv row) (hb : BoxN w b [mv, sv]) :
    Calls Tryz.prog 102 #[rv, .pointer (some ⟨b, 0, none⟩)] w (Ret fun r w' => r = .bool (!bP (AlgRow p row)) ∧ Chg No w w') := by
  have g0 := hb.c 0 _ rfl
  have g1 := hb.c 1 _ rfl
  obtain ⟨ra, rc, rfl, _⟩ := id hr
  go_enter Tryz.func102, Tryz.ntmps102
  go_wp2_with fail
  refine (areServed_any A B _ _ p row w hp h hr).mono ?_
  rintro e w1 ⟨_, rfl, rfl, k1⟩
  obtain ⟨t, ht⟩ : ∃ t, bP (AlgRow p row) = t := ⟨_, rfl⟩
  rw [ht]
  have HT := Lib.hid ht
  clear ht
  go_wp2_with fail
  go_ret
  exact ⟨_, rfl, by rw [HT.out]; rfl, k1⟩
theorem any_bP {p : Pr} {nx : List (List Int)} : nx.any (fun row => !bP (AlgRow p row)) = false ↔ ∀ s, s < nx.length → AlgRow p (nx.getD s []) := by
  rw [List.any_eq_false]
  constructor
  · intro h s hs
    have := h (nx.getD s []) (by rw [List.getD_eq_getElem?_getD, List.getElem?_eq_getElem hs]; exact List.getElem_mem _)
    rw [Bool.not_eq_true', Bool.not_eq_false] at this
    exact bP_iff.1 this
  · intro h row hrow
    obtain ⟨j, hj, rfl⟩ := List.getElem_of_mem hrow
    have := h j hj
    rw [List.getD_eq_getElem?_getD, List.getElem?_eq_getElem hj, Option.getD_some] at this
    rw [bP_yes this]; simp
set_option maxRecDepth 100000 in
set_option maxHeartbeats 1000000 in
theorem isAlgorithm_any (A B : Nat → Prop) (v nv : Value) (p : Pr) (nx : List (List Int)) (w : World) (hp : PrP p) (h : RPr A w v p) (hn : RII B w nv nx) :
    Calls Tryz.prog 37 #[v, nv] w (Ret fun r w' => r = .bool (bP (AlgP p nx)) ∧ Chg No w w') := by
  have hv := h
  obtain ⟨mv, sv, rfl, hm, hs⟩ := h
  obtain ⟨ma, mc, rfl⟩ := hm.shape
  obtain ⟨sa, sc, rfl⟩ := hs.shape
  obtain ⟨na, nc, rfl⟩ := hn.shape
  by_cases hlen : (nx.length : Int) = (p.mv.length : Int)
  · have hbn : ((nx.length : Int) == (p.mv.length : Int)) = true := by rw [hlen]; exact beq_self_eq_true _
    have HLEN : Hid (nx.length = p.mv.length) := Lib.hid (by omega)
    clear hlen
    go_enter Tryz.func37, Tryz.ntmps37
    go_wp2_with fail
    refine bx1 (R := fun W => Calls _ _ _ W _) (fun W0 k0 b0 => ?_)
    refine (ContainsFuncR_any B _ nx W0 (hn.keep k0) _ _ (fun row => !bP (AlgRow p row)) (fun x W => cfAlg x _ W) (fun i xv W hi k hx => isAlgorithm1_any A B _ _ _ p _ _ W hp (hv.keep (k0.keep k)) hx (b0.keep k))).mono ?_
    rintro e w1 ⟨_, rfl, rfl, k1⟩
    obtain ⟨t, ht⟩ : ∃ t, nx.any (fun row => !bP (AlgRow p row)) = t := ⟨_, rfl⟩
    have HB : Hid (bP (AlgP p nx) = !t) := Lib.hid (by
      cases t
      · exact bP_yes ⟨HLEN.out, any_bP.1 ht⟩
      · exact bP_no (fun e => by rw [any_bP.2 e.2] at ht; cases ht))
    rw [ht]
    clear ht
    go_wp2_with fail
    go_ret
    exact ⟨_, rfl, by rw [HB.out]; rfl, k0.keep k1⟩
  · have HB : Hid (bP (AlgP p nx) = false) := Lib.hid (bP_no (fun e => hlen (by rw [e.1])))
    have hbn : ((nx.length : Int) == (p.mv.length : Int)) = false := beq_eq_false_iff_ne.2 hlen
    go_enter Tryz.func37, Tryz.ntmps37
    go_wp2_with fail
    go_ret
    exact ⟨_, rfl, by rw [HB.out]; rfl, (Chg.refl No w).alloc _⟩
end Go.Proofs.YtndhijckbponkaaGreat
