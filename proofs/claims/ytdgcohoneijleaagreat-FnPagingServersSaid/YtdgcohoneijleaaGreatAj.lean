import Derived.Test.YtdgcohoneijleaaGreatAi
/- a configuration's index: the program's walk -/
namespace Go.Proofs.YtdgcohoneijleaaGreat
open Go.RowKit

theorem index1_any (A B : Nat → Prop) (v v' : Value) (l m : List Int) (w : World) (h : RI A w v l) (h' : RI B w v' m) :
    Calls Tryz.prog 76 #[v, v'] w fun e w' => e = .returned (.int .i64 (cmpL l m)) ∧ w = w' := by
  obtain ⟨a, c, rfl, _⟩ := id h
  obtain ⟨a', c', rfl, _⟩ := id h'
  go_enter Tryz.func76, Tryz.ntmps76
  go_wp2_with fail
  refine (Compare_any A B _ _ l m w h h').mono ?_
  rintro e w1 ⟨rfl, rfl⟩
  go_wp2_with fail
  go_ret
  exact ⟨rfl, rfl⟩
set_option maxRecDepth 100000 in
set_option maxHeartbeats 2000000 in
theorem Bsearch_any (A B : Nat → Prop) (xv tv : Value) (LL : List (List Int)) (t : List Int) (w : World) (h : RII A w xv LL) (ht : RI B w tv t) (p : Nat) (hp : p ≤ LL.length) (hb : LL.length ≤ 1000)
    (hlt : ∀ i, i < p → cmpL (LL.getD i []) t < 0) (hge : ∀ i, p ≤ i → i < LL.length → ¬ cmpL (LL.getD i []) t < 0) :
    Calls Tryz.prog 75 #[xv, tv, .func (.func 76) #[] #[]] w (Ret2 fun v0 v1 w' => v0 = .int .i64 (p : Int) ∧ (∃ b, v1 = .bool b) ∧ w = w') := by
  obtain ⟨a, c, rfl⟩ := h.shape
  obtain ⟨ta, tc, rfl, _⟩ := id ht
  have HP := Lib.hid (And.intro hlt hge)
  clear hlt hge
  go_enter Tryz.func75, Tryz.ntmps75
  go_wp2_with fail
  go_loop [9, 10] (fun y z => ∃ i j : Nat, i ≤ p ∧ p ≤ j ∧ j ≤ LL.length ∧ y = .int .i64 (i : Int) ∧ z = .int .i64 (j : Int)) (fun y z => (intOf z).toNat - (intOf y).toNat)
  case atStart => exact ⟨0, LL.length, Nat.zero_le _, hp, Nat.le_refl _, rfl, rfl⟩
  case round =>
    obtain ⟨i, j, hi, hpj, hj, rfl, rfl⟩ := hrel
    have hi0 : (0 : Int) ≤ (i : Int) := Int.natCast_nonneg _
    have hj0 : (0 : Int) ≤ (j : Int) := Int.natCast_nonneg _
    by_cases hij : i < j
    · have hij1 : (i : Int) < (j : Int) := by omega
      have hw1 : IntKind.i64.wrap ((i : Int) + (j : Int)) = (i : Int) + (j : Int) := IntWalk.i64_in _ (by omega)
      obtain ⟨q, hq⟩ : ∃ q : Nat, q = (i + j) / 2 := ⟨_, rfl⟩
      have hq1 : i ≤ q ∧ q < j := by omega
      have hq2 : ((i : Int) + (j : Int)) / 2 = (q : Int) := by omega
      have hq3 : (0 : Int) ≤ (q : Int) := Int.natCast_nonneg _
      have hql : q < LL.length := by omega
      have hq4 : (q : Int) < (LL.length : Int) := by omega
      have hwq : IntKind.i64.wrap ((q : Int) + 1) = (q : Int) + 1 := IntWalk.i64_in _ (by omega)
      obtain ⟨b, off, xa, xc, rfl, hbl, hck, hrow⟩ := h.row hql
      have HQ := Lib.hid (And.intro (HP.out.1 q) (HP.out.2 q))
      obtain ⟨row, hr⟩ : ∃ row, LL.getD q [] = row := ⟨_, rfl⟩
      rw [hr] at hck hrow HQ
      have HC := Lib.hid (index1_any A B _ _ row t w hrow ht)
      obtain ⟨x, hx⟩ : ∃ x, cmpL row t = x := ⟨_, rfl⟩
      rw [hx] at HQ HC
      clear hr hq hx
      go_wp2_with fail
      refine HC.out.mono ?_
      rintro e w1 ⟨rfl, rfl⟩
      by_cases hx0 : x < 0
      · have hqp : q < p := Nat.lt_of_not_le fun e => by have := HQ.out.2 e hql; omega
        go_wp2_with fail
        go_round
        case rel => exact ⟨q + 1, j, by omega, hpj, hj, by go_num, rfl⟩
        case measure => simp [intOf]; omega
      · have hqp : p ≤ q := Nat.le_of_not_lt fun e => hx0 (HQ.out.1 e)
        go_wp2_with fail
        go_round
        case rel => exact ⟨i, q, hi, hqp, by omega, rfl, rfl⟩
        case measure => simp [intOf]; omega
    · have hij1 : ¬ (i : Int) < (j : Int) := by omega
      have hie : i = p := by omega
      subst hie
      by_cases hpl : i < LL.length
      · have hp1 : (i : Int) < (LL.length : Int) := by omega
        obtain ⟨b, off, xa, xc, rfl, hbl, hck, hrow⟩ := h.row hpl
        obtain ⟨row, hr⟩ : ∃ row, LL.getD i [] = row := ⟨_, rfl⟩
        rw [hr] at hck hrow
        have HC := Lib.hid (index1_any A B _ _ row t w hrow ht)
        obtain ⟨x, hx⟩ : ∃ x, cmpL row t = x := ⟨_, rfl⟩
        rw [hx] at HC
        clear hr hx
        go_wp2_with fail
        refine HC.out.mono ?_
        rintro e w1 ⟨rfl, rfl⟩
        go_wp2_with fail
        go_ret2
        exact ⟨_, _, rfl, rfl, (by first | exact ⟨_, rfl⟩ | simp), rfl⟩
      · have hp1 : ¬ (i : Int) < (LL.length : Int) := by omega
        go_wp2_with fail
        go_ret2
        exact ⟨_, _, rfl, rfl, (by first | exact ⟨_, rfl⟩ | simp), rfl⟩
/-- the works of a table: its box -/
theorem countlt {n k : Nat} {l : List Int} (hl : l ∈ cfs n k) : (∀ i, i < cix n k l → cmpL ((cfs n k).getD i []) l < 0) ∧ ∀ i, cix n k l ≤ i → i < (cfs n k).length → ¬ cmpL ((cfs n k).getD i []) l < 0 := by
  have h1 := cix_lt hl
  refine ⟨fun i hi => ?_, fun i hi hi2 => ?_⟩
  · rw [cfs_cmp hl (by omega), if_pos hi]; omega
  · rw [cfs_cmp hl hi2, if_neg (by omega)]; split <;> omega
set_option maxRecDepth 100000 in
set_option maxHeartbeats 1000000 in
theorem index_any (A B : Nat → Prop) (b : Nat) (dv cv ov lv : Value) (n k : Nat) (l : List Int) (w : World) (hb : BoxN w b [dv, cv, ov]) (hc : RII A w cv (cfs n k)) (hl : RI B w lv l) (hm : l ∈ cfs n k) (h56 : (cfs n k).length ≤ 56) :
    Calls Tryz.prog 51 #[.pointer (some ⟨b, 0, none⟩), lv] w (Ret fun v' w' => v' = .int .i64 (cix n k l : Int) ∧ w = w') := by
  obtain ⟨a, c, rfl⟩ := hc.shape
  obtain ⟨xa, xc, rfl, _⟩ := id hl
  have g1 := hb.c 1 _ rfl
  have HB := Lib.hid (Bsearch_any A B _ _ (cfs n k) l w hc hl (cix n k l) (Nat.le_of_lt (cix_lt hm)) (by omega) (countlt hm).1 (countlt hm).2)
  obtain ⟨p, hp⟩ : ∃ p, cix n k l = p := ⟨_, rfl⟩
  obtain ⟨L, hL⟩ : ∃ L, (cfs n k).length = L := ⟨_, rfl⟩
  rw [hL] at HB g1
  rw [hp] at HB ⊢
  clear hp hL h56 hm hc
  go_enter Tryz.func51, Tryz.ntmps51
  go_wp2_with fail
  refine HB.out.mono ?_
  rintro e w1 ⟨_, _, rfl, rfl, ⟨bb, rfl⟩, rfl⟩
  go_wp2_with fail
  go_ret
  exact ⟨_, rfl, rfl, rfl⟩
end Go.Proofs.YtdgcohoneijleaaGreat
