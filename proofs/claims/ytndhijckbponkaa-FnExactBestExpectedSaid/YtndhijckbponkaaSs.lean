import Derived.Test.YtndhijckbponkaaDat
import Derived.Test.YtndhijckbponkaaFr
/- what the laws' helpers do with slices of slices of int -/
namespace Go.Proofs.Ytndhijckbponkaa
open Go.RowKit

def szN (n : Nat) (left : Int) : Int := if (n : Int) ≤ left then left - n else -1
set_option maxRecDepth 100000 in
set_option maxHeartbeats 1000000 in
theorem szIntS_any (a : Option Addr) (n c : Nat) (left : Int) (w : World) (hn : n ≤ 9223372036854775807) (h0 : 0 ≤ left) (h1 : left ≤ 1048576) :
    Calls Try.prog 37 #[.slice a n c, .int .i64 left] w fun e w' => e = .returned (.int .i64 (szN n left)) ∧ w = w' := by
  have hw : IntKind.i64.wrap (left - (n : Int)) = left - (n : Int) := IntWalk.i64_in _ (by omega)
  have hn0 : (0 : Int) ≤ (n : Int) := Int.natCast_nonneg _
  by_cases hl : (n : Int) ≤ left
  · have hlt : ¬ left - (n : Int) < 0 := by omega
    have H : Hid (szN n left = left - (n : Int)) := Lib.hid (if_pos hl)
    clear hl
    go_enter Try.func37, Try.ntmps37
    go_wp2
    go_ret
    exact ⟨ret_int H.out.symm, rfl⟩
  · have hlt : left - (n : Int) < 0 := by omega
    have H : Hid (szN n left = -1) := Lib.hid (if_neg hl)
    clear hl
    go_enter Try.func37, Try.ntmps37
    go_wp2
    go_ret
    exact ⟨ret_int H.out.symm, rfl⟩

/-- a slice of slices of int, with no bounds on lengths -/
def RIIr (A : Nat → Prop) (w : World) (v : Value) (ll : List (List Int)) : Prop :=
  ∃ vs, vs.length = ll.length ∧ RF A w v 1 ll.length vs ∧ ∀ i, i < ll.length → RF A w (vs.getD i undef) 1 (ll.getD i []).length ((ll.getD i []).map (Value.int .i64))
def tot : List (List Int) → Nat
  | [] => 0
  | l :: ll => l.length + tot ll
theorem tot_append (a b : List (List Int)) : tot (a ++ b) = tot a + tot b := by
  induction a with
  | nil => simp [tot]
  | cons x a ih => simp [tot, ih]; omega
theorem tot_take (ll : List (List Int)) (k : Nat) : tot (ll.take k) ≤ tot ll := by
  have := tot_append (ll.take k) (ll.drop k)
  rw [List.take_append_drop] at this
  omega
theorem tot_succ (ll : List (List Int)) (k : Nat) (h : k < ll.length) : tot (ll.take (k + 1)) = tot (ll.take k) + (ll.getD k []).length := by
  rw [List.take_succ_eq_append_getElem h, tot_append]
  simp [tot, List.getD_eq_getElem?_getD, List.getElem?_eq_getElem h]
theorem tot_get (ll : List (List Int)) (k : Nat) (h : k < ll.length) : (ll.getD k []).length ≤ tot ll := by
  have := tot_succ ll k h
  have := tot_take ll (k + 1)
  omega
theorem RII.ofRaw {A : Nat → Prop} {w : World} {v : Value} {ll : List (List Int)} (h : RIIr A w v ll) (hl : ll.length ≤ 1048576) (ht : tot ll ≤ 1048576) : RII A w v ll := by
  obtain ⟨vs, h1, h2, h3⟩ := h
  exact ⟨by omega, vs, h1, h2, fun i hi => RI.ofRF (h3 i hi) (by have := tot_get ll i hi; omega)⟩
/-- what szIntSS leaves -/
def szII (ll : List (List Int)) (left : Int) : Int := if (ll.length : Int) + tot ll ≤ left then left - ll.length - tot ll else -1

set_option maxRecDepth 100000 in
set_option maxHeartbeats 1000000 in
theorem szIntSS_any (v : Value) (ll : List (List Int)) (left : Int) (w : World) (h : RIIr No w v ll) (h0 : 0 ≤ left) (h1 : left ≤ 1048576) :
    Calls Try.prog 36 #[v, .int .i64 left] w (Ret fun r w' => r = .int .i64 (szII ll left) ∧ Chg No w w') := by
  obtain ⟨vs, hvl, ⟨a, cap, rfl, hcap, hmax, hcl, _, hc⟩, hin⟩ := h
  have hw : IntKind.i64.wrap (left - (ll.length : Int)) = left - (ll.length : Int) := IntWalk.i64_in _ (by omega)
  have hn0 : (0 : Int) ≤ (ll.length : Int) := Int.natCast_nonneg _
  have hn1 : (ll.length : Int) ≤ 9223372036854775807 := by omega
  have HI := Lib.hid hin
  have HV := Lib.hid hvl
  have HCL := Lib.hid hcl
  clear hin hvl hcl
  by_cases hlt0 : left - (ll.length : Int) < 0
  · have H : Hid (szII ll left = -1) := Lib.hid (if_neg (by omega))
    clear hc
    go_enter Try.func36, Try.ntmps36
    go_wp2
    go_ret
    exact ⟨_, rfl, by rw [H.out]; rfl, Chg.refl _ _⟩
  · go_enter Try.func36, Try.ntmps36
    go_wp2
    go_loop [1, 5] (fun s i => ∃ k : Nat, k ≤ ll.length ∧ i = .int .i64 k ∧ s = .int .i64 (left - (ll.length : Int) - (tot (ll.take k) : Int)) ∧ 0 ≤ left - (ll.length : Int) - (tot (ll.take k) : Int)) (fun _ i => ll.length - (intOf i).toNat)
    case atStart => exact ⟨0, Nat.zero_le _, rfl, by simp [tot], by simp [tot]; omega⟩
    case round =>
      obtain ⟨k, hk, rfl, rfl, hpos⟩ := hrel
      obtain ⟨m, hm⟩ : ∃ m, tot (ll.take k) = m := ⟨_, rfl⟩
      rw [hm] at hpos
      rw [hm]
      by_cases hlt : k < ll.length
      · obtain ⟨b, off, rfl, _, hb, hcell⟩ := hc (by omega)
        have hck := hcell k (by rw [HCL.out]; omega)
        obtain ⟨x, hx⟩ : ∃ x, vs.getD k undef = x := ⟨_, rfl⟩
        rw [hx] at hck
        have hin := HI.out k hlt
        rw [hx] at hin
        obtain ⟨xa, xc, rfl, xh1, xh2, _⟩ := hin
        obtain ⟨n, hn⟩ : ∃ n, (ll.getD k []).length = n := ⟨_, rfl⟩
        rw [hn] at hck xh1
        have hs : Hid (tot (ll.take (k + 1)) = m + n) := Lib.hid (by rw [tot_succ ll k hlt, hm, hn])
        have HM := Lib.hid hm
        clear hx hcell hc hm hn
        have hk0 : (0 : Int) ≤ (k : Int) := Int.natCast_nonneg _
        have hk1 : (k : Int) < (ll.length : Int) := by omega
        go_wp2_with fail
        refine (szIntS_any xa n xc _ _ (by omega) hpos (by omega)).mono ?_
        rintro e w' ⟨rfl, rfl⟩
        by_cases hle : (n : Int) ≤ left - (ll.length : Int) - (m : Int)
        · rw [show szN n (left - (ll.length : Int) - (m : Int)) = left - (ll.length : Int) - (m : Int) - n from if_pos hle]
          have hnn : ¬ left - (ll.length : Int) - (m : Int) - (n : Int) < 0 := by omega
          go_wp2_with fail
          go_round
          case rel => exact ⟨k + 1, by omega, by go_num, congrArg (Value.int .i64) (by rw [hs.out]; omega), by rw [hs.out]; omega⟩
          case measure => simp [intOf]; omega
        · rw [show szN n (left - (ll.length : Int) - (m : Int)) = -1 from if_neg hle]
          have H : Hid (szII ll left = -1) := Lib.hid (if_neg (by have := tot_take ll (k + 1); rw [hs.out] at this; omega))
          go_wp2_with fail
          go_ret
          exact ⟨_, rfl, by rw [H.out]; rfl, Chg.refl _ _⟩
      · have hkl : k = ll.length := by omega
        subst hkl
        rw [List.take_length] at hm
        have H : Hid (szII ll left = left - (ll.length : Int) - (m : Int)) := Lib.hid (by unfold szII; rw [hm, if_pos (by omega)])
        clear hm hc
        go_wp2_with fail
        go_ret
        exact ⟨_, rfl, by rw [H.out]; rfl, Chg.refl _ _⟩

/-- what is known of the slices that toIntSS has made -/
def Made (base : Nat) (w : World) (v : Value) (n : Nat) (ll : List (List Int)) (vs : List Value) : Prop :=
  OS 25 1 base w v n (vs ++ List.replicate (n - vs.length) (.slice none 0 0)) ∧ vs.length ≤ n ∧ (∀ i, i < vs.length → OI base w (vs.getD i undef) (ll.getD i [])) ∧
    (∀ i, i < vs.length → ∀ q, own v q → ¬ own (vs.getD i undef) q) ∧ (∀ i j, i < j → j < vs.length → ∀ q, own (vs.getD i undef) q → ¬ own (vs.getD j undef) q)
theorem Made.keep {base : Nat} {w w' : World} {v : Value} {n : Nat} {ll : List (List Int)} {vs : List Value} (h : Made base w v n ll vs) (hc : Chg No w w') : Made base w' v n ll vs :=
  ⟨h.1.keep hc, h.2.1, fun i hi => (h.2.2.1 i hi).keep hc, h.2.2.2.1, h.2.2.2.2⟩
theorem Made.oii {base : Nat} {w : World} {v : Value} {ll : List (List Int)} {vs : List Value} (h : Made base w v ll.length ll vs) (hl : vs.length = ll.length) : ∃ F, OII base w v ll F := by
  obtain ⟨h1, h2, h3, h4, h5⟩ := h
  rw [hl, Nat.sub_self, List.replicate_zero, List.append_nil] at h1
  rw [hl] at h3 h4 h5
  exact ⟨_, vs, hl, h1, h3, h4, h5, fun q => Iff.rfl⟩
/-- v[j] = x -/
theorem Made.set {base : Nat} {w : World} {g m cap n : Nat} {ll : List (List Int)} {vs : List Value} {x : Value} (h : Made base w (.slice (some ⟨g, 0, none⟩) m cap) n ll vs) (hj : vs.length < n)
    (hx : OI base w x (ll.getD vs.length [])) (hd : ∀ q, own x q → q ≠ g ∧ ∀ i, i < vs.length → ¬ own (vs.getD i undef) q) :
    Made base (w.setCell ⟨g, vs.length, none⟩ x) (.slice (some ⟨g, 0, none⟩) m cap) n ll (vs ++ [x]) ∧ Chg (fun k => k = g) w (w.setCell ⟨g, vs.length, none⟩ x) := by
  obtain ⟨h1, h2, h3, h4, h5⟩ := h
  obtain ⟨s1, s2⟩ := h1.store vs.length x
  have e : (vs ++ List.replicate (n - vs.length) (Value.slice none 0 0)).set vs.length x = (vs ++ [x]) ++ List.replicate (n - (vs ++ [x]).length) (Value.slice none 0 0) := by
    obtain ⟨d, hd⟩ : ∃ d, n - vs.length = d + 1 := ⟨n - vs.length - 1, by omega⟩
    rw [hd, List.length_append, List.length_singleton, show n - (vs.length + 1) = d by omega, List.replicate_succ, List.set_append_right _ _ (Nat.le_refl _)]
    simp
  rw [e] at s1
  refine ⟨⟨s1, by simp; omega, fun i hi => ?_, fun i hi q hq => ?_, fun i j hij hj' q hq => ?_⟩, s2⟩
  · by_cases hil : i < vs.length
    · rw [getD_snoc_lt _ _ _ hil]
      exact (h3 i hil).step s2 (fun q hq hq' => h4 i hil q (own_slice.2 hq') hq)
    · have : i = vs.length := by simp at hi; omega
      subst this
      rw [getD_snoc_eq]
      exact hx.step s2 (fun q hq hq' => (hd q hq).1 hq')
  · by_cases hil : i < vs.length
    · rw [getD_snoc_lt _ _ _ hil]; exact h4 i hil q hq
    · have : i = vs.length := by simp at hi; omega
      subst this
      rw [getD_snoc_eq]
      exact fun hq' => (hd q hq').1 (own_slice.1 hq)
  · have hil : i < vs.length := by simp at hj'; omega
    rw [getD_snoc_lt _ _ _ hil] at hq
    by_cases hjl : j < vs.length
    · rw [getD_snoc_lt _ _ _ hjl]; exact h5 i j hij hjl q hq
    · have : j = vs.length := by simp at hj'; omega
      subst this
      rw [getD_snoc_eq]
      exact fun hq' => (hd q hq').2 i hil hq

set_option maxRecDepth 100000 in
set_option maxHeartbeats 1000000 in
theorem toIntSS_any (v : Value) (ll : List (List Int)) (w : World) (h : RII No w v ll) :
    Calls Try.prog 41 #[v] w (Ret fun v' w' => (∃ F, OII w.heap.size w' v' ll F) ∧ Chg No w w') := by
  have hL := h.len
  obtain ⟨a, cap, rfl, hcap, hmax, hvw⟩ := h.view
  obtain ⟨i0, hi, hz0, hz1, hz2⟩ := elInts.info
  go_enter Try.func41, Try.ntmps41
  go_wp2_with (refine wpList_make_full _ rfl (.tmp 6) (.tmp 6) 22 rfl w.heap.size 25 i0 (.slice none 0 0) 1 elInts.und hi hz0 hz1 .i64 .i64 _ _ ll.length rfl rfl rfl rfl (by rw [hz2]; omega) (by unfold maxLen; omega) (Nat.le_refl _) ?_)
  intro W hW hg
  have hch0 := Chg.grownNone hg
  have hW0 : Made w.heap.size W (.slice (some ⟨w.heap.size, 0, none⟩) ll.length ll.length) ll.length ll [] := by
    refine ⟨⟨hL, ?_⟩, by simp, fun i hi => by simp at hi, fun i hi => by simp at hi, fun i j _ hj => by simp at hj⟩
    rw [toList_madeCells_one] at hW
    simpa using hW
  clear hg hW hz0 hz1 hz2 hi
  have hgb : w.heap.size < W.heap.size := (hW0.1.at).2.2.2.1
  have HV := Lib.hid hvw
  clear hvw
  go_wp2_with fail
  go_loopw [4] (fun i wr => ∃ (j : Nat) (vs : List Value), j ≤ ll.length ∧ i = .int .i64 j ∧ vs.length = j ∧ Made w.heap.size wr (.slice (some ⟨w.heap.size, 0, none⟩) ll.length ll.length) ll.length ll vs ∧ Chg No w wr) (fun i _ => ll.length - (intOf i).toNat)
  case atStart => exact ⟨0, [], Nat.zero_le _, rfl, rfl, hW0, hch0⟩
  case round =>
    obtain ⟨j, vs, hj, rfl, hvl, hM, hch⟩ := hrel
    by_cases hlt : j < ll.length
    · obtain ⟨b, off, x, rfl, _, hb, hcell, hx⟩ := HV.out j hlt
      have hcl := (hch.cellD b (off + j) hb (fun e => e)).trans hcell
      obtain ⟨xa, xn, xc, rfl⟩ := hx.shape
      have hj0 : (0 : Int) ≤ (j : Int) := Int.natCast_nonneg _
      have hj1 : (j : Int) < (ll.length : Int) := by omega
      have hw1 : IntKind.i64.wrap ((j : Int) + 1) = (j : Int) + 1 := IntWalk.i64_in _ (by omega)
      have HL := Lib.hid hvl
      clear hvl hcell
      go_wp2_with fail
      refine (toIntS_any No _ _ wr (hx.keep hch)).mono ?_
      rintro e w1 ⟨x1, rfl, o1, k1⟩
      obtain ⟨ya, yn, yc, rfl⟩ := o1.shape
      have hM1 := hM.keep k1
      have hz := hch.size
      have hz1 := hM.1.at.2.2.2.1
      obtain ⟨m1, m2⟩ := hM1.set (x := .slice ya yn yc) (by rw [HL.out]; exact hlt) (by rw [HL.out]; exact o1.weak hz) (fun q hq => ⟨by have := (o1.lt q hq).1; omega, fun i hi hq' => by have := (o1.lt q hq).1; have := ((hM.2.2.1 i hi).lt q hq').2; omega⟩)
      rw [HL.out] at m1 m2
      have hof := hM1.1.at.2.1 j
      have hc0 := hM1.1.at.1 j (by rw [hM1.1.cl]; omega)
      go_wp2_with fail
      go_round
      case rel =>
        exact ⟨j + 1, vs ++ [.slice ya yn yc], hlt, by go_num, by simp [HL.out], m1, (hch.keep k1).step m2 (fun q hq hl => by omega)⟩
      case measure => simp [intOf]; omega
    · have hj' : j = ll.length := by omega
      subst hj'
      have ho := hM.oii hvl
      go_wp2_with fail
      go_ret
      exact ⟨_, rfl, ho, hch⟩

set_option maxRecDepth 100000 in
set_option maxHeartbeats 1000000 in
theorem eqIntS_qt (A B : Nat → Prop) (v v' : Value) (l : List Int) (w : World) (h : RI A w v l) (h' : RI B w v' l) :
    Calls Try.prog 17 #[v, v'] w fun e w' => e = .returned (.bool true) ∧ Qt w w' := by
  have hL := h.len
  obtain ⟨a, cap, rfl, hcap, hmax, hlen, _, hc⟩ := id h
  obtain ⟨a', cap', rfl, hcap', hmax', hlen', _, hc'⟩ := id h'
  go_enter Try.func17, Try.ntmps17
  go_wp2_with fail
  go_loopw [5] (fun i wr => ∃ j : Nat, j ≤ l.length ∧ i = .int .i64 j ∧ Qt w wr) (fun i _ => l.length - (intOf i).toNat)
  case atStart => exact ⟨0, Nat.zero_le _, rfl, Qt.refl w⟩
  case round =>
    obtain ⟨j, hj, rfl, hq⟩ := hrel
    have hch := hq.chg
    by_cases hlt : j < l.length
    · obtain ⟨b, off, rfl, _, hb, hcell⟩ := hc (by intro e; simp [e] at hlt)
      obtain ⟨b', off', rfl, _, hb', hcell'⟩ := hc' (by intro e; simp [e] at hlt)
      have hcl := (hch.cellD b (off + j) hb (fun e => e)).trans (hcell j hlt)
      have hcl' := (hch.cellD b' (off' + j) hb' (fun e => e)).trans (hcell' j hlt)
      obtain ⟨y, hy⟩ : ∃ y, l.getD j 0 = y := ⟨_, rfl⟩
      rw [hy] at hcl hcl'
      have hj0 : (0 : Int) ≤ (j : Int) := Int.natCast_nonneg _
      have hj1 : (j : Int) < (l.length : Int) := by omega
      have hw1 : IntKind.i64.wrap ((j : Int) + 1) = (j : Int) + 1 := IntWalk.i64_in _ (by omega)
      clear hcell hcell' hc hc' hy
      go_wp2_with fail
      go_quiet (fail)
      go_wp2_with fail
      go_round
      case rel => exact ⟨j + 1, hlt, by go_num, hq.trans ⟨_, rfl⟩⟩
      case measure => simp [intOf]; omega
    · have hj' : j = l.length := by omega
      subst hj'
      clear hc hc'
      go_wp2_with fail
      go_ret
      exact ⟨rfl, hq⟩

set_option maxRecDepth 100000 in
set_option maxHeartbeats 1000000 in
theorem eqIntSS_same (A B : Nat → Prop) (v v' : Value) (ll : List (List Int)) (w : World) (h : RII A w v ll) (h' : RII B w v' ll) :
    Calls Try.prog 45 #[v, v'] w fun e w' => e = .returned (.bool true) ∧ Qt w w' := by
  have hL := h.len
  obtain ⟨a, cap, rfl, hcap, hmax, hvw⟩ := h.view
  obtain ⟨a', cap', rfl, hcap', hmax', hvw'⟩ := h'.view
  have HV := Lib.hid hvw
  have HV' := Lib.hid hvw'
  clear hvw hvw'
  go_enter Try.func45, Try.ntmps45
  go_wp2_with fail
  go_loopw [5] (fun i wr => ∃ j : Nat, j ≤ ll.length ∧ i = .int .i64 j ∧ Qt w wr) (fun i _ => ll.length - (intOf i).toNat)
  case atStart => exact ⟨0, Nat.zero_le _, rfl, Qt.refl w⟩
  case round =>
    obtain ⟨j, hj, rfl, hq⟩ := hrel
    have hch := hq.chg
    by_cases hlt : j < ll.length
    · obtain ⟨b, off, x, rfl, _, hb, hcell, hx⟩ := HV.out j hlt
      obtain ⟨b', off', x', rfl, _, hb', hcell', hx'⟩ := HV'.out j hlt
      have hcl := (hch.cellD b (off + j) hb (fun e => e)).trans hcell
      have hcl' := (hch.cellD b' (off' + j) hb' (fun e => e)).trans hcell'
      have hx1 := hx.keep hch
      have hx1' := hx'.keep hch
      obtain ⟨xa, xn, xc, rfl⟩ := hx.shape
      obtain ⟨xa', xn', xc', rfl⟩ := hx'.shape
      have hj0 : (0 : Int) ≤ (j : Int) := Int.natCast_nonneg _
      have hj1 : (j : Int) < (ll.length : Int) := by omega
      have hw1 : IntKind.i64.wrap ((j : Int) + 1) = (j : Int) + 1 := IntWalk.i64_in _ (by omega)
      clear hcell hcell'
      go_wp2_with fail
      go_quiet ((go_at_call 17; exact qt_quiet (eqIntS_qt A B _ _ _ _ (hx1.keep ((Chg.refl No wr).drewN _)) (hx1'.keep ((Chg.refl No wr).drewN _)))))
      go_wp2_with fail
      go_round
      case rel => exact ⟨j + 1, hlt, by go_num, hq.trans ⟨_, rfl⟩⟩
      case measure => simp [intOf]; omega
    · have hj' : j = ll.length := by omega
      subst hj'
      go_wp2_with fail
      go_ret
      exact ⟨rfl, hq⟩
end Go.Proofs.Ytndhijckbponkaa
