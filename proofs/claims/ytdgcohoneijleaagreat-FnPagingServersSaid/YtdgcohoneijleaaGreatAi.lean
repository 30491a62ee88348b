import Derived.Test.YtdgcohoneijleaaGreatAf
import Derived.Test.YtdgcohoneijleaaGreatPkX1
import Derived.Test.YtdgcohoneijleaaGreatPkX2
import Derived.Test.YtdgcohoneijleaaGreatBase
import Derived.BigQuiet
/- lists compared, sorted, configurations: the program's walk -/
namespace Go.Proofs.YtdgcohoneijleaaGreat
open Go.RowKit

theorem Less_any (x y : Int) (w : World) : Calls Tryz.prog 87 #[.int .i64 x, .int .i64 y] w fun e w' => e = .returned (.bool (decide (x < y))) ∧ w = w' :=
  (Tryz.cmp_Less_int2 x y w).mono fun _ _ h => ⟨h.1, h.2.symm⟩
theorem Cmp_any (x y : Int) (w : World) : Calls Tryz.prog 79 #[.int .i64 x, .int .i64 y] w fun e w' => e = .returned (.int .i64 (Lib.compareInt x y)) ∧ w = w' :=
  (Tryz.cmp_Compare_int x y w).mono fun _ _ h => ⟨h.1, h.2.symm⟩
theorem drop_cons {l : List Int} {k : Nat} (h : k < l.length) : l.drop k = l.getD k 0 :: l.drop (k + 1) := by
  rw [List.drop_eq_getElem_cons h, List.getD_eq_getElem?_getD, List.getElem?_eq_getElem h]; rfl
theorem cmpL_step {l m : List Int} {k : Nat} (h : k < l.length) (h' : k < m.length) : cmpL (l.drop k) (m.drop k) = if l.getD k 0 < m.getD k 0 then -1 else if m.getD k 0 < l.getD k 0 then 1 else cmpL (l.drop (k + 1)) (m.drop (k + 1)) := by
  rw [drop_cons h, drop_cons h', cmpL]
theorem cmpL_more {l m : List Int} {k : Nat} (h : k < l.length) (h' : m.length ≤ k) : cmpL (l.drop k) (m.drop k) = 1 := by
  rw [drop_cons h, List.drop_eq_nil_of_le h', cmpL]
theorem cmpL_end {l m : List Int} (h : l.length ≤ m.length) : cmpL (l.drop l.length) (m.drop l.length) = if l.length < m.length then -1 else 0 := by
  rw [List.drop_eq_nil_of_le (Nat.le_refl _)]
  by_cases e : l.length < m.length
  · rw [if_pos e, drop_cons e, cmpL]
  · rw [if_neg e, List.drop_eq_nil_of_le (by omega), cmpL]
set_option maxRecDepth 100000 in
set_option maxHeartbeats 1000000 in
theorem Compare_any (A B : Nat → Prop) (v v' : Value) (l m : List Int) (w : World) (h : RI A w v l) (h' : RI B w v' m) :
    Calls Tryz.prog 55 #[v, v'] w fun e w' => e = .returned (.int .i64 (cmpL l m)) ∧ w = w' := by
  have hl := h.len
  have hl' := h'.len
  obtain ⟨a, c, rfl, _⟩ := id h
  obtain ⟨a', c', rfl, _⟩ := id h'
  go_enter Tryz.func55, Tryz.ntmps55
  go_wp2_with fail
  go_loop [11] (fun z => ∃ k : Nat, k ≤ l.length ∧ k ≤ m.length ∧ z = .int .i64 (k : Int) ∧ Hid (cmpL l m = cmpL (l.drop k) (m.drop k))) (fun z => l.length - (intOf z).toNat)
  case atStart => exact ⟨0, Nat.zero_le _, Nat.zero_le _, rfl, Lib.hid rfl⟩
  case round =>
    obtain ⟨k, hk, hk', rfl, HC⟩ := hrel
    have hk0 : (0 : Int) ≤ (k : Int) := Int.natCast_nonneg _
    by_cases hlt : k < l.length
    · have hk1 : (k : Int) < (l.length : Int) := by omega
      have hwk : IntKind.i64.wrap ((k : Int) + 1) = (k : Int) + 1 := IntWalk.i64_in _ (by omega)
      obtain ⟨b, off, rfl, hb, hck⟩ := RI.cellN h hlt
      by_cases hlt' : k < m.length
      · have hk2 : (k : Int) < (m.length : Int) := by omega
        have hk3 : ¬ (m.length : Int) ≤ (k : Int) := by omega
        obtain ⟨b', off', rfl, hb', hck'⟩ := RI.cellN h' hlt'
        have HS := Lib.hid (cmpL_step hlt hlt')
        obtain ⟨x, hx⟩ : ∃ x, l.getD k 0 = x := ⟨_, rfl⟩
        obtain ⟨y, hy⟩ : ∃ y, m.getD k 0 = y := ⟨_, rfl⟩
        rw [hx] at hck HS
        rw [hy] at hck' HS
        clear hx hy
        go_wp2_with fail
        refine (Cmp_any x y w).mono ?_
        rintro e w1 ⟨rfl, rfl⟩
        have hcx : Lib.compareInt x y = if x < y then -1 else if y < x then 1 else 0 := rfl
        by_cases h1 : x < y
        · rw [hcx, if_pos h1]
          have HR : Hid (cmpL l m = -1) := Lib.hid (by rw [HC.out, HS.out, if_pos h1])
          clear hcx
          go_wp2_with fail
          go_ret
          exact ⟨by rw [HR.out]; rfl, rfl⟩
        · by_cases h2 : y < x
          · rw [hcx, if_neg h1, if_pos h2]
            have HR : Hid (cmpL l m = 1) := Lib.hid (by rw [HC.out, HS.out, if_neg h1, if_pos h2])
            clear hcx
            go_wp2_with fail
            go_ret
            exact ⟨by rw [HR.out]; rfl, rfl⟩
          · rw [hcx, if_neg h1, if_neg h2]
            have HR : Hid (cmpL l m = cmpL (l.drop (k + 1)) (m.drop (k + 1))) := Lib.hid (by rw [HC.out, HS.out, if_neg h1, if_neg h2])
            clear hcx
            go_wp2_with fail
            go_round
            case rel => exact ⟨k + 1, hlt, hlt', by go_num, HR⟩
            case measure => simp [intOf]; omega
      · have hk3 : (m.length : Int) ≤ (k : Int) := by omega
        have HR : Hid (cmpL l m = 1) := Lib.hid (by rw [HC.out, cmpL_more hlt (by omega)])
        go_wp2_with fail
        go_ret
        exact ⟨by rw [HR.out]; rfl, rfl⟩
    · have hke : k = l.length := by omega
      subst hke
      have HE := Lib.hid (cmpL_end hk')
      have hk1 : ¬ (l.length : Int) < (l.length : Int) := by omega
      by_cases hlm : l.length < m.length
      · have hlm1 : (l.length : Int) < (m.length : Int) := by omega
        have HR : Hid (cmpL l m = -1) := Lib.hid (by rw [HC.out, HE.out, if_pos hlm])
        go_wp2_with fail
        go_ret
        exact ⟨by rw [HR.out]; rfl, rfl⟩
      · have hlm1 : ¬ (l.length : Int) < (m.length : Int) := by omega
        have HR : Hid (cmpL l m = 0) := Lib.hid (by rw [HC.out, HE.out, if_neg hlm])
        go_wp2_with fail
        go_ret
        exact ⟨by rw [HR.out]; rfl, rfl⟩
def sortB (l : List Int) : Bool := decide (l.Pairwise (· ≤ ·))
theorem sorted_iff {l : List Int} : l.Pairwise (· ≤ ·) ↔ ∀ j, j + 1 < l.length → l.getD j 0 ≤ l.getD (j + 1) 0 := by
  rw [List.pairwise_iff_getElem]
  constructor
  · intro h j hj
    have := h j (j + 1) (by omega) hj (by omega)
    rw [List.getD_eq_getElem?_getD, List.getD_eq_getElem?_getD, List.getElem?_eq_getElem (by omega : j < l.length), List.getElem?_eq_getElem hj]
    exact this
  · intro h i j hi hj hij
    have key : ∀ d, ∀ hd : i + d < l.length, l[i] ≤ l[i + d] := by
      intro d
      induction d with
      | zero => intro _; exact Int.le_refl _
      | succ d ih =>
        intro hd
        have h1 := ih (by omega)
        have h2 := h (i + d) (by omega)
        rw [List.getD_eq_getElem?_getD, List.getD_eq_getElem?_getD, List.getElem?_eq_getElem (by omega : i + d < l.length), List.getElem?_eq_getElem (by omega : i + d + 1 < l.length)] at h2
        exact Int.le_trans h1 h2
    have := key (j - i) (by omega)
    simpa [show i + (j - i) = j by omega] using this
theorem sortB_yes {l : List Int} (h : ∀ j, j + 1 < l.length → l.getD j 0 ≤ l.getD (j + 1) 0) : sortB l = true := decide_eq_true (sorted_iff.2 h)
theorem sortB_no {l : List Int} {j : Nat} (hj : j + 1 < l.length) (h : l.getD (j + 1) 0 < l.getD j 0) : sortB l = false :=
  decide_eq_false fun e => by have := sorted_iff.1 e j hj; omega
set_option maxRecDepth 100000 in
set_option maxHeartbeats 1000000 in
theorem IsSorted_any (A : Nat → Prop) (v : Value) (l : List Int) (w : World) (h : RI A w v l) :
    Calls Tryz.prog 67 #[v] w (Ret fun r w' => r = .bool (sortB l) ∧ Chg No w w') := by
  have hl := h.len
  obtain ⟨a, c, rfl, _⟩ := id h
  have hw0 : IntKind.i64.wrap ((l.length : Int) - 1) = (l.length : Int) - 1 := IntWalk.i64_in _ (by omega)
  go_enter Tryz.func67, Tryz.ntmps67
  go_wp2_with fail
  go_loopw [3] (fun z wr => ∃ i : Int, -1 ≤ i ∧ i < l.length ∧ z = .int .i64 i ∧ Hid (∀ j : Nat, i ≤ j → j + 1 < l.length → l.getD j 0 ≤ l.getD (j + 1) 0) ∧ Chg No w wr) (fun z _ => (intOf z).toNat)
  case atStart => exact ⟨(l.length : Int) - 1, by omega, by omega, rfl, Lib.hid (fun j h1 h2 => by omega), Chg.refl _ _⟩
  case round =>
    obtain ⟨i, hi0, hi1, rfl, HL, kr⟩ := hrel
    by_cases hp : 0 < i
    · obtain ⟨p, hpp⟩ : ∃ p : Nat, i = (p : Int) + 1 := ⟨(i - 1).toNat, by omega⟩
      subst hpp
      have hp1 : p + 1 < l.length := by omega
      obtain ⟨b, off, rfl, hb, hc1⟩ := RI.cellN (h.keep kr) hp1
      have hc0 : wr.cell? ⟨b, off + p, none⟩ = some (.int .i64 (l.getD p 0)) := RI.at1 (h.keep kr) (by omega)
      have hp0 : (0 : Int) ≤ (p : Int) := Int.natCast_nonneg _
      have hp2 : (p : Int) + 1 < (l.length : Int) := by omega
      have hp3 : (0 : Int) ≤ (p : Int) + 1 := by omega
      have hp4 : (p : Int) < (l.length : Int) := by omega
      have hwp : IntKind.i64.wrap ((p : Int) + 1 - 1) = (p : Int) := by rw [IntWalk.i64_in _ (by omega)]; omega
      have hnt : ((p : Int) + 1).toNat = p + 1 := by omega
      obtain ⟨x, hx⟩ : ∃ x, l.getD (p + 1) 0 = x := ⟨_, rfl⟩
      obtain ⟨y, hy⟩ : ∃ y, l.getD p 0 = y := ⟨_, rfl⟩
      rw [hx] at hc1
      rw [hy] at hc0
      have HX := Lib.hid (And.intro hx hy)
      have HLS := Lib.hid (fun W => Less_any x y W)
      clear hx hy
      go_wp2_with fail
      go_quiet ((go_at_call 87; with_reducible exact quiet_sym (HLS.out _)))
      have hd := (Chg.refl No wr).drewN nq
      replace kr := kr.keep hd
      clear hc0 hc1
      generalize wr.drewN nq = W at hd kr ⊢
      by_cases hxy : x < y
      · have HR : Hid (sortB l = false) := Lib.hid (sortB_no hp1 (by rw [HX.out.1, HX.out.2]; exact hxy))
        go_wp2_with fail
        go_ret
        exact ⟨_, rfl, by rw [HR.out]; rfl, kr⟩
      · have HL2 : Hid (∀ j : Nat, (p : Int) ≤ j → j + 1 < l.length → l.getD j 0 ≤ l.getD (j + 1) 0) := Lib.hid (fun j h1 h2 => by
          by_cases e : j = p
          · subst e; have h8 := HX.out.1; have h9 := HX.out.2; omega
          · exact HL.out j (by omega) h2)
        go_wp2_with fail
        go_round
        case rel => exact ⟨(p : Int), by omega, by omega, rfl, HL2, kr⟩
        case measure => simp [intOf]
    · have HR : Hid (sortB l = true) := Lib.hid (sortB_yes (fun j hj => HL.out j (by omega) hj))
      go_wp2_with fail
      go_ret
      exact ⟨_, rfl, by rw [HR.out]; rfl, kr⟩
def confB (n : Int) (a : List Int) : Bool := inB (a.length : Int) 1 3 && belowB n a && sortB a
set_option maxRecDepth 100000 in
set_option maxHeartbeats 1000000 in
theorem isConfig_any (A B : Nat → Prop) (dv av : Value) (D : List (List Int)) (a : List Int) (w : World) (h : RII A w dv D) (ha : RI B w av a) :
    Calls Tryz.prog 43 #[.agg #[dv], av] w (Ret fun r w' => r = .bool (confB D.length a) ∧ Chg No w w') := by
  have hl := ha.len
  have hD := h.len
  obtain ⟨da, dc, rfl⟩ := h.shape
  obtain ⟨xa, xc, rfl, _⟩ := id ha
  go_enter Tryz.func43, Tryz.ntmps43
  go_wp2_with fail
  refine bx1 (R := fun W => Calls _ _ _ W _) (fun W0 k0 b0 => ?_)
  refine (within_any _ _ _ W0).mono ?_
  rintro e w1 ⟨rfl, rfl⟩
  have g0 := b0.c 0 _ rfl
  have HA := Lib.hid (ha.keep k0)
  cases h1 : inB (a.length : Int) 1 3
  · have HR : Hid (confB D.length a = false) := Lib.hid (by unfold confB; rw [h1]; rfl)
    clear h1
    go_wp2_with fail
    go_ret
    exact ⟨_, rfl, by rw [HR.out]; rfl, k0⟩
  · have H1 := Lib.hid h1
    clear h1
    go_wp2_with fail
    refine (areBelow_any _ _ a (D.length : Int) W0 HA.out (by omega) (by omega)).mono ?_
    rintro e w1 ⟨_, rfl, rfl, k1⟩
    have kk := k0.keep k1
    have HA1 := Lib.hid (HA.out.keep k1)
    clear g0
    cases h2 : belowB (D.length : Int) a
    · have HR : Hid (confB D.length a = false) := Lib.hid (by unfold confB; rw [H1.out, h2]; rfl)
      clear h2
      go_wp2_with fail
      go_ret
      exact ⟨_, rfl, by rw [HR.out]; rfl, kk⟩
    · have H2 := Lib.hid h2
      clear h2
      go_wp2_with fail
      refine (IsSorted_any _ _ a w1 HA1.out).mono ?_
      rintro e w2 ⟨_, rfl, rfl, k2⟩
      have HR : Hid (confB D.length a = sortB a) := Lib.hid (by unfold confB; rw [H1.out, H2.out]; rfl)
      rw [← HR.out]
      go_wp2_with fail
      go_ret
      exact ⟨_, rfl, rfl, kk.keep k2⟩
noncomputable def servB (D : List (List Int)) (a r : List Int) : Bool := bP (MetP D) && confB D.length a && decide ((r.length : Int) ≤ 60) && belowB D.length r
set_option maxRecDepth 100000 in
set_option maxHeartbeats 1000000 in
theorem isServed_any (A B C : Nat → Prop) (dv av rv : Value) (D : List (List Int)) (a r : List Int) (w : World) (h : RII A w dv D) (ha : RI B w av a) (hr : RI C w rv r) :
    Calls Tryz.prog 20 #[.agg #[dv], av, rv] w (Ret fun x w' => x = .bool (servB D a r) ∧ Chg No w w') := by
  have hl := hr.len
  have hD := h.len
  obtain ⟨da, dc, rfl⟩ := h.shape
  obtain ⟨xa, xc, rfl, _⟩ := id ha
  obtain ⟨ya, yc, rfl, _⟩ := id hr
  go_enter Tryz.func20, Tryz.ntmps20
  go_wp2_with fail
  refine bx1 (R := fun W => Calls _ _ _ W _) (fun W0 k0 b0 => ?_)
  refine (IsMetric_any A _ D W0 (h.keep k0)).mono ?_
  rintro e w1 ⟨_, rfl, rfl, k1⟩
  have kk := k0.keep k1
  have bb := b0.keep k1
  have g0 := bb.c 0 _ rfl
  have HH := Lib.hid (And.intro (h.keep kk) (And.intro (ha.keep kk) (hr.keep kk)))
  clear h ha hr b0 k0 k1
  cases h1 : bP (MetP D)
  · have HR : Hid (servB D a r = false) := Lib.hid (by unfold servB; rw [h1]; rfl)
    clear h1
    go_wp2_with fail
    go_ret
    exact ⟨_, rfl, by rw [HR.out]; rfl, kk⟩
  · have H1 := Lib.hid h1
    clear h1
    go_wp2_with fail
    refine (isConfig_any _ _ _ _ D a w1 HH.out.1 HH.out.2.1).mono ?_
    rintro e w2 ⟨_, rfl, rfl, k2⟩
    have kk2 := kk.keep k2
    have bb2 := bb.keep k2
    clear g0 kk bb
    have g0 := bb2.c 0 _ rfl
    have HR2 := Lib.hid (HH.out.2.2.keep k2)
    cases h2 : confB (D.length : Int) a
    · have HR : Hid (servB D a r = false) := Lib.hid (by unfold servB; rw [H1.out, h2]; rfl)
      clear h2
      go_wp2_with fail
      go_ret
      exact ⟨_, rfl, by rw [HR.out]; rfl, kk2⟩
    · have H2 := Lib.hid h2
      clear h2
      by_cases h3 : (r.length : Int) ≤ 60
      · go_wp2_with fail
        refine (areBelow_any _ _ r (D.length : Int) w2 HR2.out (by omega) (by omega)).mono ?_
        rintro e w3 ⟨_, rfl, rfl, k3⟩
        have HR : Hid (servB D a r = belowB D.length r) := Lib.hid (by unfold servB; rw [H1.out, H2.out, decide_eq_true h3]; rfl)
        rw [← HR.out]
        go_wp2_with fail
        go_ret
        exact ⟨_, rfl, rfl, kk2.keep k3⟩
      · have HR : Hid (servB D a r = false) := Lib.hid (by unfold servB; rw [H1.out, H2.out, decide_eq_false h3]; rfl)
        go_wp2_with fail
        go_ret
        exact ⟨_, rfl, by rw [HR.out]; rfl, kk2⟩
end Go.Proofs.YtdgcohoneijleaaGreat
