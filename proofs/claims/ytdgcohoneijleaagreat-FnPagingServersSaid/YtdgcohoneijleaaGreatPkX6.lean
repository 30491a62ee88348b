import Derived.Test.YtdgcohoneijleaaGreatPb
import Derived.Test.YtdgcohoneijleaaGreatP
import Derived.Test.YtdgcohoneijleaaGreatPkX1
import Derived.Test.YtdgcohoneijleaaGreatPkX2
/- detours of tables, both sides -/
namespace Go.Proofs.YtdgcohoneijleaaGreat
open Go.RowKit

/-- all triples before a place in the order of three loops -/
def Bef3 (n : Nat) (P : Nat → Nat → Nat → Prop) (x y z : Nat) : Prop := Bef n (fun i j => ∀ k, k < n → P i j k) x y ∧ ∀ k, k < z → P x y k
theorem Bef3.zero {n : Nat} {P : Nat → Nat → Nat → Prop} {x y : Nat} (h : Bef n (fun i j => ∀ k, k < n → P i j k) x y) : Bef3 n P x y 0 := ⟨h, fun _ h => absurd h (Nat.not_lt_zero _)⟩
theorem Bef3.next {n : Nat} {P : Nat → Nat → Nat → Prop} {x y z : Nat} (h : Bef3 n P x y z) (hp : P x y z) : Bef3 n P x y (z + 1) := ⟨h.1, fun k hk => by
  by_cases e : k = z
  · subst e; exact hp
  · exact h.2 k (by omega)⟩
theorem Bef3.row {n : Nat} {P : Nat → Nat → Nat → Prop} {x y : Nat} (h : Bef3 n P x y n) : Bef n (fun i j => ∀ k, k < n → P i j k) x (y + 1) := h.1.next h.2
theorem cellA_in {d : List (List Int)} (h : TabP d) {x y : Nat} (hx : x < d.length) (hy : y < d.length) : 0 ≤ cellA d x y ∧ cellA d x y ≤ 99 := by
  obtain ⟨_, h2, h3⟩ := h.2.2 x y hx hy
  by_cases e : x = y
  · have := h2 e; omega
  · have := h3 e; omega
theorem RI.at1 {A : Nat → Prop} {w : World} {b off n c : Nat} {l : List Int} (h : RI A w (.slice (some ⟨b, off, none⟩) n c) l) {j : Nat} (hj : j < l.length) : w.cell? ⟨b, off + j, none⟩ = some (.int .i64 (l.getD j 0)) := by
  obtain ⟨_, _, e, _, hc⟩ := h.cellN hj
  cases e
  exact hc
theorem RII.rowAt {A : Nat → Prop} {w : World} {b off n cap : Nat} {d : List (List Int)} (h : RII A w (.slice (some ⟨b, off, none⟩) n cap) d) {x : Nat} (hx : x < d.length) {m : Nat} (hm : (d.getD x []).length = m) (h0 : 0 < m) :
    ∃ b' off' xc, b < w.heap.size ∧ w.cell? ⟨b, off + x, none⟩ = some (.slice (some ⟨b', off', none⟩) m xc) ∧ RI A w (.slice (some ⟨b', off', none⟩) m xc) (d.getD x []) := by
  obtain ⟨_, _, xa, xc, e, hb, hc, hr⟩ := h.row hx
  cases e
  subst hm
  obtain ⟨b', off', rfl, _, _⟩ := hr.cellN h0
  exact ⟨b', off', xc, hb, hc, hr⟩
set_option maxRecDepth 100000 in
set_option maxHeartbeats 2000000 in
theorem detour_any (A : Nat → Prop) (v : Value) (d : List (List Int)) (w : World) (h : RII A w v d) (ht : TabP d) :
    Calls Tryz.prog 66 #[.agg #[v]] w (Ret2 fun _ v1 w' => v1 = .bool (!bP (DetP d)) ∧ Chg No w w') := by
  have hv := h
  obtain ⟨a, cap, rfl, hc1, hc2, hx⟩ := h.view
  clear h hx
  have hl0 : (0 : Int) ≤ (d.length : Int) := Int.natCast_nonneg _
  have hn1 : 0 < d.length := ht.1.1
  have hn6 : d.length ≤ 6 := ht.1.2
  have HR := Lib.hid ht.2.1
  have HT := Lib.hid ht
  clear ht
  obtain ⟨tb, tf, rfl⟩ := hv.at0 hn1
  go_enter Tryz.func66, Tryz.ntmps66
  go_wp2_with fail
  refine bx1 (R := fun W => _) (fun W0 k0 b0 => ?_)
  have hv0 := hv.keep k0
  go_loopw [12] (fun z wr => ∃ x : Nat, x ≤ d.length ∧ z = .int .i64 (x : Int) ∧ Hid (Bef d.length (fun i j => ∀ k, k < d.length → okD d i j k) x 0) ∧ Chg No W0 wr) (fun z _ => d.length - (intOf z).toNat)
  case atStart => exact ⟨0, Nat.zero_le _, rfl, Lib.hid Bef.zero, Chg.refl _ _⟩
  case round =>
    obtain ⟨x, hx, rfl, HB, kx⟩ := hrel
    have hx0 : (0 : Int) ≤ (x : Int) := Int.natCast_nonneg _
    by_cases hlt : x < d.length
    · have hx1 : (x : Int) < (d.length : Int) := by omega
      have hwx : IntKind.i64.wrap ((x : Int) + 1) = (x : Int) + 1 := IntWalk.i64_in _ (by omega)
      have g0 := (b0.keep kx).c 0 _ rfl
      obtain ⟨xb, xo, xc, hbt, hcx0, hrx⟩ := hv0.rowAt hlt (HR.out x hlt) hn1
      have hcx := (kx.cellD tb (tf + x) hbt (fun e => e)).trans hcx0
      obtain ⟨wo, hwo⟩ : ∃ wo : World, wr = wo := ⟨_, rfl⟩
      subst hwo
      go_wp2_with fail
      go_loopw [19] (fun z wr => ∃ y : Nat, y ≤ d.length ∧ z = .int .i64 (y : Int) ∧ Hid (Bef d.length (fun i j => ∀ k, k < d.length → okD d i j k) x y) ∧ Chg No W0 wr) (fun z _ => d.length - (intOf z).toNat)
      case atStart => exact ⟨0, Nat.zero_le _, rfl, HB, kx⟩
      case round =>
        obtain ⟨y, hy, rfl, HC, ky⟩ := hrel
        clear g0 hcx
        have hy0 : (0 : Int) ≤ (y : Int) := Int.natCast_nonneg _
        by_cases hlty : y < d.length
        · have hy1 : (y : Int) < (d.length : Int) := by omega
          have hwy : IntKind.i64.wrap ((y : Int) + 1) = (y : Int) + 1 := IntWalk.i64_in _ (by omega)
          have g0 := (b0.keep ky).c 0 _ rfl
          have hcx := (ky.cellD tb (tf + x) hbt (fun e => e)).trans hcx0
          have hxy := (hrx.keep ky).at1 (j := y) (by rw [HR.out x hlt]; exact hlty)
          obtain ⟨e, he⟩ : ∃ e, cellA d x y = e := ⟨_, rfl⟩
          rw [show (d.getD x []).getD y 0 = e from he] at hxy
          obtain ⟨wp, hwp⟩ : ∃ wo : World, wr = wo := ⟨_, rfl⟩
          subst hwp
          go_wp2_with fail
          go_loopw [27] (fun z wr => ∃ m : Nat, m ≤ d.length ∧ z = .int .i64 (m : Int) ∧ Hid (Bef3 d.length (okD d) x y m) ∧ Chg No W0 wr) (fun z _ => d.length - (intOf z).toNat)
          case atStart => exact ⟨0, Nat.zero_le _, rfl, Lib.hid (Bef3.zero HC.out), ky⟩
          case round =>
            obtain ⟨m, hm, rfl, HD, kz⟩ := hrel
            clear g0 hcx hxy
            have hm0 : (0 : Int) ≤ (m : Int) := Int.natCast_nonneg _
            by_cases hltm : m < d.length
            · have hm1 : (m : Int) < (d.length : Int) := by omega
              have hwm : IntKind.i64.wrap ((m : Int) + 1) = (m : Int) + 1 := IntWalk.i64_in _ (by omega)
              have g0 := (b0.keep kz).c 0 _ rfl
              have hcx := (kz.cellD tb (tf + x) hbt (fun e => e)).trans hcx0
              obtain ⟨yb, yo, yc, _, hcy0, hry⟩ := hv0.rowAt hlty (HR.out y hlty) hn1
              have hcy := (kz.cellD tb (tf + y) hbt (fun e => e)).trans hcy0
              have hxy := (hrx.keep kz).at1 (j := y) (by rw [HR.out x hlt]; exact hlty)
              have hxz := (hrx.keep kz).at1 (j := m) (by rw [HR.out x hlt]; exact hltm)
              have hyz := (hry.keep kz).at1 (j := m) (by rw [HR.out y hlty]; exact hltm)
              have i1 := cellA_in HT.out hlt hlty
              have i2 := cellA_in HT.out hlty hltm
              have HN : okD d x y m → Hid (Bef3 d.length (okD d) x y (m + 1)) := fun h => Lib.hid (HD.out.next h)
              have HQ : ¬ okD d x y m → Hid (bP (DetP d) = false) := fun h => Lib.hid (bP_no (fun ht => h (ht x y m hlt hlty hltm)))
              obtain ⟨f, hf⟩ : ∃ f, cellA d x m = f := ⟨_, rfl⟩
              obtain ⟨g, hg⟩ : ∃ g, cellA d y m = g := ⟨_, rfl⟩
              unfold okD at HN HQ
              rw [he, hf, hg] at HN HQ
              rw [show (d.getD x []).getD y 0 = e from he] at hxy
              rw [he] at i1
              rw [show (d.getD x []).getD m 0 = f from hf] at hxz
              rw [show (d.getD y []).getD m 0 = g from hg] at hyz
              rw [hg] at i2
              have hw1 : IntKind.i64.wrap (e + g) = e + g := IntWalk.i64_in _ (by omega)
              clear hf hg hcy0
              by_cases hle : f ≤ e + g
              · replace HN := HN hle
                have hle' : ¬ e + g < f := by omega
                clear HQ
                go_wp2_with fail
                go_quiet (fail)
                have hd := (Chg.refl No wr).drewN nq
                have kz := kz.keep hd
                clear g0 hcx hcy hxz hxy hyz
                generalize wr.drewN nq = W at hd kz ⊢
                go_wp2_with fail
                go_round
                case rel => exact ⟨m + 1, by omega, by go_num, HN, kz⟩
                case measure => simp [intOf]; omega
              · replace HQ := HQ hle
                have hle' : e + g < f := by omega
                clear HN
                go_wp2_with fail
                go_quiet (fail)
                have hd := (Chg.refl No wr).drewN nq
                have kz := kz.keep hd
                clear g0 hcx hcy hxz hxy hyz
                generalize wr.drewN nq = W at hd kz ⊢
                go_wp2_with fail
                go_ret2; exact ⟨_, _, rfl, by rw [HQ.out]; rfl, (k0.keep kz).alloc _⟩
            · have hme : m = d.length := by omega
              subst hme
              have g0 := (b0.keep kz).c 0 _ rfl
              go_wp2_with fail
              go_round
              case rel => exact ⟨y + 1, by omega, by go_num, Lib.hid HD.out.row, kz⟩
              case measure => simp [intOf]; omega
        · have hye : y = d.length := by omega
          subst hye
          have g0 := (b0.keep ky).c 0 _ rfl
          go_wp2_with fail
          go_round
          case rel => exact ⟨x + 1, by omega, by go_num, Lib.hid HC.out.row, ky⟩
          case measure => simp [intOf]; omega
    · have hxe : x = d.length := by omega
      subst hxe
      have H : Hid (bP (DetP d) = true) := Lib.hid (bP_yes (fun x y z hx hy hz => HB.out.all x y hx hy z hz))
      go_wp2_with fail
      go_ret2; exact ⟨_, _, rfl, by rw [H.out]; rfl, k0.keep kx⟩
end Go.Proofs.YtdgcohoneijleaaGreat

/- plain: sequences of items in order, their weights and the sum of their faults -/
namespace Go.Proofs.YtdgcohoneijleaaGreat

/-- the faults of a list of requests behind a cache -/
def nfC (c : Ca) : List Int → Nat
  | [] => 0
  | x :: l => (if hasB c.pages x then 0 else 1) + nfC (stepC c x) l
theorem placesTo_cons (c : Ca) (x : Int) (l : List Int) (k : Nat) : (placesTo c (x :: l) (k + 1)).length = (if hasB c.pages x then 0 else 1) + (placesTo (stepC c x) l k).length := by
  induction k with
  | zero =>
    show (if hasB c.pages x then [] else [] ++ [((0 : Nat) : Int)] : List Int).length = _
    cases hasB c.pages x <;> rfl
  | succ k ih =>
    have e : placesTo c (x :: l) (k + 1 + 1) = if hasB (runC (stepC c x) (l.take k)).pages (l.getD k 0) then placesTo c (x :: l) (k + 1) else placesTo c (x :: l) (k + 1) ++ [((k + 1 : Nat) : Int)] := rfl
    have e2 : placesTo (stepC c x) l (k + 1) = if hasB (runC (stepC c x) (l.take k)).pages (l.getD k 0) then placesTo (stepC c x) l k else placesTo (stepC c x) l k ++ [((k : Nat) : Int)] := rfl
    rw [e, e2]
    cases hasB (runC (stepC c x) (l.take k)).pages (l.getD k 0)
    · simp only [Bool.false_eq_true, if_false, List.length_append, List.length_singleton, ih]; omega
    · simp only [if_true, ih]
theorem places_nf (l : List Int) : ∀ c : Ca, (places c l).length = nfC c l := by
  induction l with
  | nil => exact fun _ => rfl
  | cons x l ih =>
    intro c
    show (placesTo c (x :: l) (l.length + 1)).length = _
    rw [placesTo_cons]
    show _ + (places (stepC c x) l).length = _
    rw [ih]
    rfl
theorem nfC_le (l : List Int) : ∀ c : Ca, nfC c l ≤ l.length := by
  induction l with
  | nil => exact fun _ => Nat.le_refl _
  | cons x l ih =>
    intro c
    have := ih (stepC c x)
    show (if hasB c.pages x then 0 else 1) + nfC (stepC c x) l ≤ l.length + 1
    split <;> omega
end Go.Proofs.YtdgcohoneijleaaGreat

/- valid problems, both sides -/
namespace Go.Proofs.YtdgcohoneijleaaGreat
open Go.RowKit

theorem RII.shape {A : Nat → Prop} {w : World} {v : Value} {ll : List (List Int)} (h : RII A w v ll) : ∃ a cap, v = .slice a ll.length cap := by
  obtain ⟨a, cap, h, _⟩ := h.view; exact ⟨a, cap, h⟩

set_option maxHeartbeats 400000 in
theorem IsMetric_any (A : Nat → Prop) (v : Value) (d : List (List Int)) (w : World) (h : RII A w v d) :
    Calls Tryz.prog 42 #[.agg #[v]] w (Ret fun r w' => r = .bool (bP (MetP d)) ∧ Chg No w w') := by
  have hE : Hid (bP (MetP d) = (bP (TabP d) && bP (DetP d))) := Lib.hid (by rw [← bP_and]; exact congrArg bP (propext (metP_iff d)))
  go_enter Tryz.func42, Tryz.ntmps42
  go_wp2_with fail
  refine bx1 (R := fun W => Calls _ _ _ W _) (fun W0 k0 b0 => ?_)
  refine (isTable_any A v d W0 (h.keep k0)).mono ?_
  rintro e w1 ⟨_, rfl, rfl, k1⟩
  have g0 := (b0.keep k1).c 0 _ rfl
  cases ht : bP (TabP d)
  · have HT := Lib.hid ht
    clear ht
    go_wp2_with fail
    go_ret
    exact ⟨_, rfl, by rw [hE.out, HT.out]; rfl, k0.keep k1⟩
  · have HT := Lib.hid ht
    clear ht
    go_wp2_with fail
    refine (detour_any A v d w1 ((h.keep k0).keep k1) (bP_iff.1 HT.out)).mono ?_
    rintro e w2 ⟨v0, _, rfl, rfl, k2⟩
    have HD := hE.out
    rw [HT.out] at HD
    have HD := Lib.hid HD
    clear g0
    cases hd : bP (DetP d)
    · rw [hd] at HD
      have HD := Lib.hid HD.out
      clear hd
      go_wp2_with fail
      go_ret
      exact ⟨_, rfl, by rw [HD.out]; rfl, (k0.keep k1).keep k2⟩
    · rw [hd] at HD
      have HD := Lib.hid HD.out
      clear hd
      go_wp2_with fail
      go_ret
      exact ⟨_, rfl, by rw [HD.out]; rfl, (k0.keep k1).keep k2⟩
end Go.Proofs.YtdgcohoneijleaaGreat
