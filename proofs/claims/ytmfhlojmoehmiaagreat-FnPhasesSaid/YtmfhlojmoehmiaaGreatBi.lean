import Derived.Test.YtmfhlojmoehmiaaGreatBh
import Derived.Test.YtmfhlojmoehmiaaGreatSs
import Derived.Test.YtmfhlojmoehmiaaGreatH
import Derived.Test.YtmfhlojmoehmiaaGreatBg
/- the reference's table of least numbers of faults -/
namespace Go.Proofs.YtmfhlojmoehmiaaGreat
open Go.RowKit

/-- a row of slices of int, each in a block of its own, in a block of the call's -/
structure TabW (base : Nat) (w : World) (g n : Nat) (vs : List Value) (ll : List (List Int)) : Prop where
  os : OS 23 1 base w (.slice (some ⟨g, 0, none⟩) n n) n vs
  vl : vs.length = n
  rl : ll.length = n
  row : ∀ i, i < n → OI base w (vs.getD i undef) (ll.getD i [])
  far : ∀ i, i < n → ∀ q, own (vs.getD i undef) q → q ≠ g
  dis : ∀ i j, i < n → j < n → i ≠ j → ∀ q, own (vs.getD i undef) q → ¬ own (vs.getD j undef) q
theorem TabW.keep {base : Nat} {w w' : World} {g n : Nat} {vs : List Value} {ll : List (List Int)} (h : TabW base w g n vs ll) (hc : Chg No w w') : TabW base w' g n vs ll :=
  ⟨h.os.keep hc, h.vl, h.rl, fun i hi => (h.row i hi).keep hc, h.far, h.dis⟩
theorem getD_set_self {α : Type} (l : List α) (i : Nat) (x d : α) (hi : i < l.length) : (l.set i x).getD i d = x := by simp [List.getD_eq_getElem?_getD, hi]
theorem getD_set_other {α : Type} (l : List α) (i j : Nat) (x d : α) (h : i ≠ j) : (l.set i x).getD j d = l.getD j d := by simp [List.getD_eq_getElem?_getD, h]
/-- t[i] = x, x grown out of what stood there -/
theorem TabW.put {base : Nat} {w w' : World} {g n : Nat} {vs : List Value} {ll : List (List Int)} (h : TabW base w g n vs ll) {i : Nat} (hi : i < n) {x : Value} {l : List Int} (ho : OI base w' x l) (hc : Chg (own (vs.getD i undef)) w w')
    (hf : ∀ q, own x q → own (vs.getD i undef) q ∨ w.heap.size ≤ q) :
    TabW base (w'.setCell ⟨g, i, none⟩ x) g n (vs.set i x) (ll.set i l) ∧ Chg (fun q => q = g ∨ own (vs.getD i undef) q) w (w'.setCell ⟨g, i, none⟩ x) := by
  have hg : g < w.heap.size := (h.os.at).2.2.2.1
  have hgi : ¬ own (vs.getD i undef) g := fun e => h.far i hi g e rfl
  have hxg : ∀ q, own x q → q ≠ g := fun q hq e => by
    subst e
    rcases hf q hq with h1 | h1
    · exact hgi h1
    · omega
  have hos := h.os.step hc (fun q hq => by rw [own_slice.1 hq]; exact hgi)
  obtain ⟨s1, s2⟩ := hos.store i x
  have hvl := h.vl
  have hll := h.rl
  refine ⟨⟨s1, by simpa using h.vl, by simpa using h.rl, fun j hj => ?_, fun j hj q hq => ?_, fun j k hj hk hjk q hq => ?_⟩, ?_⟩
  · by_cases e : j = i
    · subst e
      rw [getD_set_self _ _ _ _ (by omega), getD_set_self _ _ _ _ (by omega)]
      exact ho.step s2 (fun q hq e => hxg q hq e)
    · rw [getD_set_other _ _ _ _ _ (Ne.symm e), getD_set_other _ _ _ _ _ (Ne.symm e)]
      exact ((h.row j hj).step hc (fun q hq e2 => h.dis j i hj hi e q hq e2)).step s2 (fun q hq e => h.far j hj q hq e)
  · by_cases e : j = i
    · subst e
      rw [getD_set_self _ _ _ _ (by omega)] at hq
      exact hxg q hq
    · rw [getD_set_other _ _ _ _ _ (Ne.symm e)] at hq
      exact h.far j hj q hq
  · by_cases e : j = i
    · subst e
      rw [getD_set_self _ _ _ _ (by omega)] at hq
      rw [getD_set_other _ _ _ _ _ hjk]
      intro hk2
      rcases hf q hq with h1 | h1
      · exact h.dis j k hj hk hjk q h1 hk2
      · have := ((h.row k hk).lt q hk2).2; omega
    · rw [getD_set_other _ _ _ _ _ (Ne.symm e)] at hq
      by_cases e2 : k = i
      · subst e2
        rw [getD_set_self _ _ _ _ (by omega)]
        intro hk2
        rcases hf q hk2 with h1 | h1
        · exact h.dis j k hj hk hjk q hq h1
        · have := ((h.row j hj).lt q hq).2; omega
      · rw [getD_set_other _ _ _ _ _ (Ne.symm e2)]
        exact h.dis j k hj hk hjk q hq
  · exact (hc.mono (T := fun q => q = g ∨ own (vs.getD i undef) q) (fun q hq _ => .inr hq)).step s2 (fun q hq _ => .inl hq)
theorem TabW.low {base : Nat} {w : World} {g n : Nat} {vs : List Value} {ll : List (List Int)} (h : TabW base w g n vs ll) {i : Nat} (hi : i < n) (q : Nat) (hq : q = g ∨ own (vs.getD i undef) q) : base ≤ q := by
  rcases hq with rfl | hq
  · exact (h.os.at).2.2.1
  · exact ((h.row i hi).lt q hq).1
/-- the cell of one of its rows -/
theorem TabW.cell {base : Nat} {w : World} {g n : Nat} {vs : List Value} {ll : List (List Int)} (h : TabW base w g n vs ll) {i : Nat} (hi : i < n) : w.cell? ⟨g, i, none⟩ = some (vs.getD i undef) ∧ w.frozen? ⟨g, i, none⟩ = false :=
  ⟨(h.os.at).1 i (by rw [h.vl]; exact hi), (h.os.at).2.1 i⟩

/-- row i of the table -/
def rowL (K n : Nat) (lr : List Nat) (i : Nat) : List Int := (List.range (2 ^ n)).map fun s => dpM K n (lr.drop i) s
/-- the table from row q on -/
def tabL (K n : Nat) (lr : List Nat) (q : Nat) : List (List Int) := (List.range (lr.length + 1)).map fun t => if q ≤ t then rowL K n lr t else []
theorem rowL_len (K n : Nat) (lr : List Nat) (i : Nat) : (rowL K n lr i).length = 2 ^ n := by simp [rowL]
theorem tabL_len (K n : Nat) (lr : List Nat) (q : Nat) : (tabL K n lr q).length = lr.length + 1 := by simp [tabL]
theorem rowL_at (K n : Nat) (lr : List Nat) (i s : Nat) (hs : s < 2 ^ n) : (rowL K n lr i).getD s 0 = dpM K n (lr.drop i) s := by simp [rowL, List.getD_eq_getElem?_getD, hs]
theorem rowL_snoc (K n : Nat) (lr : List Nat) (i s : Nat) (hs : s < 2 ^ n) : (rowL K n lr i).take (s + 1) = (rowL K n lr i).take s ++ [dpM K n (lr.drop i) s] := by
  rw [List.take_succ_eq_append_getElem (by rw [rowL_len]; exact hs)]
  congr 2
  simp [rowL]
theorem tabL_at (K n : Nat) (lr : List Nat) (q t : Nat) (ht : t < lr.length + 1) : (tabL K n lr q).getD t [] = if q ≤ t then rowL K n lr t else [] := by simp [tabL, List.getD_eq_getElem?_getD, ht]
theorem tabL_set (K n : Nat) (lr : List Nat) (i : Nat) (_hi : i < lr.length + 1) : (tabL K n lr (i + 1)).set i (rowL K n lr i) = tabL K n lr i := by
  apply List.ext_getElem
  · simp [tabL]
  · intro t h1 h2
    simp only [tabL, List.length_map, List.length_range] at h2
    rw [List.getElem_set]
    split
    · rename_i e; subst e; simp [tabL]
    · rename_i e
      simp only [tabL, List.getElem_map, List.getElem_range]
      by_cases h : i ≤ t
      · rw [if_pos (by omega), if_pos h]
      · rw [if_neg (by omega), if_neg h]
theorem tabL_last (K n : Nat) (lr : List Nat) : (List.replicate (lr.length + 1) ([] : List Int)).set lr.length (List.replicate (2 ^ n) 0) = tabL K n lr lr.length := by
  apply List.ext_getElem
  · simp [tabL]
  · intro t h1 h2
    simp only [tabL, List.length_map, List.length_range] at h2
    rw [List.getElem_set]
    split
    · rename_i e; subst e
      simp only [tabL, List.getElem_map, List.getElem_range, Nat.le_refl, if_true, rowL, List.drop_length]
      have : (fun s : Nat => dpM K n [] s) = fun _ => (0 : Int) := by funext s; rfl
      rw [this, List.map_const', List.length_range]
    · rename_i e
      simp only [tabL, List.getElem_map, List.getElem_range, List.getElem_replicate]
      rw [if_neg (by omega)]
theorem set_set_same (l : List (List Int)) (i : Nat) (a b : List Int) : (l.set i a).set i b = l.set i b := by simp

set_option maxRecDepth 100000 in
set_option maxHeartbeats 4000000 in
theorem l5Fewest_any (K n : Nat) (hK : 1 ≤ K ∧ K ≤ 6) (hn : 1 ≤ n ∧ n ≤ 8) (vr : Value) (rq : List Int) (lr : List Nat) (w : World) (hr : RI No w vr rq) (hlr : rq = lr.map Int.ofNat) (hlow : ∀ x ∈ lr, x < n) (hl60 : lr.length ≤ 60) :
    Calls Tryz.prog 182 #[.int .i64 (K : Int), .int .i64 (n : Int), vr] w (Ret fun v w' => ∃ g b N c, v = .slice (some ⟨g, 0, none⟩) (lr.length + 1) (lr.length + 1) ∧ w'.cell? ⟨g, 0, none⟩ = some (.slice (some ⟨b, 0, none⟩) N c) ∧ 0 < N ∧
      w'.cell? ⟨b, 0, none⟩ = some (.int .i64 (dpM K n lr 0)) ∧ Chg No w w') := by
  have hrl : rq.length = lr.length := by rw [hlr, List.length_map]
  obtain ⟨ra, rcap, rfl, _, _, _, _, hcr⟩ := id hr
  have HCR := Lib.hid hcr
  clear hcr
  rw [hrl] at hr HCR ⊢
  obtain ⟨N, hN⟩ : ∃ N, 2 ^ n = N := ⟨_, rfl⟩
  have hpw : wrap64 (2 ^ n) = (N : Int) := by rw [pow_wrap n (by omega), hN]
  have hN8 : N ≤ 256 := by rw [← hN]; exact pow8 hn.2
  have hN0 : 0 < N := by rw [← hN]; exact Nat.two_pow_pos n
  have HN := Lib.hid hN
  have HRL := Lib.hid hrl
  have HLR := Lib.hid hlr
  have HLOW := Lib.hid hlow
  clear hlow hN hrl hlr
  obtain ⟨M, hM⟩ : ∃ M, lr.length + 1 = M := ⟨_, rfl⟩
  rw [hM]
  have HM := Lib.hid hM
  have hM1 : M ≤ lr.length + 1 := by omega
  have hM2 : lr.length + 1 ≤ M := by omega
  clear hM
  obtain ⟨i0, hi, hz0, hz1, hz2⟩ := elInts2.info
  have hwl : IntKind.i64.wrap ((lr.length : Int) + 1) = (M : Int) := (IntWalk.i64_in _ (by omega)).trans (by omega)
  go_enter Tryz.func182, Tryz.ntmps182
  go_wp2_with (refine wpList_make_full _ rfl (.tmp 16) (.tmp 16) 158 rfl w.heap.size 23 i0 (.slice none 0 0) 1 elInts2.und hi hz0 hz1 .i64 .i64 _ _ M rfl rfl rfl rfl (by rw [hz2]; omega) (by unfold maxLen; omega) (Nat.le_refl _) ?_)
  intro W hW hg
  have hch0 := Chg.grownNone hg
  have hT0 : TabW w.heap.size W w.heap.size M (List.replicate M (.slice none 0 0)) (List.replicate M []) := by
    rw [toList_madeCells_one] at hW
    have hnil : ∀ i, i < M → (List.replicate M (Value.slice none 0 0)).getD i undef = .slice none 0 0 := fun i hi => by simp [List.getD_eq_getElem?_getD, hi]
    refine ⟨⟨by omega, by simpa using hW⟩, by simp, by simp, fun i hi => ?_, fun i hi q hq => ?_, fun i j hi _ _ q hq => ?_⟩
    · rw [hnil i hi]
      have : (List.replicate M ([] : List Int)).getD i [] = [] := by simp [List.getD_eq_getElem?_getD, hi]
      rw [this]; exact OI.nil _ _
    · rw [hnil i hi] at hq; simp [own, Value.ownBlock] at hq
    · rw [hnil i hi] at hq; simp [own, Value.ownBlock] at hq
  clear hg hW hz0 hz1 hz2 hi
  have hsW := hch0.size
  have hgW := hT0.os.at.2.2.2.1
  obtain ⟨hcw, hfw⟩ := hT0.cell (i := lr.length) (by omega)
  go_wp2_with (refine wmake rfl (.tmp 22) (.tmp 22) rfl N (congrArg (Value.int .i64) hpw) (congrArg (Value.int .i64) hpw) (by omega) ?_)
  intro W1 o1 k1
  have hgd : (List.replicate M (Value.slice none 0 0)).getD lr.length undef = .slice none 0 0 := by rw [← HM.out]; simp [List.getD_eq_getElem?_getD]
  obtain ⟨hcw, hfw⟩ := (hT0.keep k1).cell (i := lr.length) (by omega)
  obtain ⟨hT2, k2⟩ := hT0.put (i := lr.length) (by omega) (o1.weak hsW) (k1.mono (fun q hq _ => hq.elim)) (fun q hq => .inr (o1.lt q hq).1)
  have hlow2 := hT0.low (i := lr.length) (by omega)
  have etl := tabL_last K n lr
  rw [HN.out, HM.out] at etl
  rw [etl] at hT2
  rw [hgd] at hcw
  have ch2 := hch0.step k2 (fun q hq hl => by have := hlow2 q hq; omega)
  clear hT0 k1 o1 hgW hch0 hgd etl
  have hwl1 : IntKind.i64.wrap ((lr.length : Int) - 1) = (lr.length : Int) - 1 := IntWalk.i64_in _ (by omega)
  go_wp2_with fail
  clear hcw hfw k2 hlow2
  generalize W1.setCell _ _ = W2 at hT2 ch2 ⊢
  go_loopw [8] (fun z wr => ∃ (q : Nat) (vs : List Value), q ≤ lr.length ∧ z = .int .i64 ((q : Int) - 1) ∧ TabW w.heap.size wr w.heap.size M vs (tabL K n lr q) ∧ Chg No w wr) (fun z _ => (intOf z + 1).toNat)
  case atStart => exact ⟨lr.length, _, Nat.le_refl _, rfl, hT2, ch2⟩
  case round =>
    clear hT2 ch2 W2
    obtain ⟨q, vs, hq, rfl, hT, hch⟩ := hrel
    cases q with
    | zero =>
      rw [show ((0 : Nat) : Int) - 1 = -1 from rfl]
      have hrow := hT.row 0 (by omega)
      obtain ⟨hcg, _⟩ := hT.cell (i := 0) (by omega)
      rw [tabL_at K n lr 0 0 (by omega), if_pos (Nat.le_refl _)] at hrow
      obtain ⟨a1, c1, he1, hn1, hm1, hv1⟩ := hrow.view
      rw [rowL_len, HN.out] at he1 hn1 hv1
      obtain ⟨b1, rfl, _, _, hcells1, _⟩ := hv1 (by omega)
      rw [he1] at hcg
      have h0 := hcells1 0 hN0
      rw [rowL_at K n lr 0 0 (by rw [HN.out]; exact hN0), List.drop_zero] at h0
      clear hrow he1 hn1 hm1 hv1 hcells1 hT
      go_wp2_with fail
      go_ret
      exact ⟨_, rfl, _, _, _, _, rfl, hcg, hN0, h0, hch⟩
    | succ i =>
      rw [show ((i + 1 : Nat) : Int) - 1 = (i : Int) by omega]
      obtain ⟨rb, off, rfl, _, hrb, hcell⟩ := HCR.out (by intro e; have := HRL.out; rw [e] at this; simp at this; omega)
      have hcl := hcell i (by omega)
      obtain ⟨r, hrr⟩ : ∃ r, lr.getD i 0 = r := ⟨_, rfl⟩
      have hrg : rq.getD i 0 = (r : Int) := by
        rw [HLR.out, ← hrr, List.getD_eq_getElem?_getD, List.getElem?_map, List.getD_eq_getElem?_getD, List.getElem?_eq_getElem (by omega)]; rfl
      have hrn : r < n := by
        rw [← hrr, List.getD_eq_getElem?_getD, List.getElem?_eq_getElem (by omega)]
        exact HLOW.out _ (List.getElem_mem _)
      rw [hrg] at hcl
      have HREQ : Hid (∀ W, Chg No w W → W.cell? ⟨rb, off + i, none⟩ = some (.int .i64 (r : Int))) := Lib.hid (fun W h => (h.cellD rb (off + i) hrb (fun e => e)).trans hcl)
      clear hcell hrg hcl
      have hi0 : (0 : Int) ≤ (i : Int) := Int.natCast_nonneg _
      have hi1 : (i : Int) < (lr.length : Int) := by omega
      obtain ⟨i1, hi1e⟩ : ∃ i1, i + 1 = i1 := ⟨_, rfl⟩
      have hwi : IntKind.i64.wrap ((i : Int) + 1) = (i1 : Int) := (IntWalk.i64_in _ (by omega)).trans (by omega)
      have hi1a : i1 ≤ i + 1 := by omega
      have hi1b : i + 1 ≤ i1 := by omega
      have hi1c : (i1 : Int) < (M : Int) := by omega
      have hi1d : (i : Int) < (M : Int) := by omega
      have hi1f : (0 : Int) ≤ (i1 : Int) := Int.natCast_nonneg _
      have HI1 := Lib.hid hi1e
      clear hi1e
      have hwi2 : IntKind.i64.wrap ((i : Int) - 1) = (i : Int) - 1 := IntWalk.i64_in _ (by omega)
      have hdrop : lr.drop i = r :: lr.drop (i + 1) := by
        rw [List.drop_eq_getElem_cons (by omega), ← hrr, List.getD_eq_getElem?_getD, List.getElem?_eq_getElem (by omega)]; rfl
      have HDR := Lib.hid hdrop
      clear hdrop hrr
      go_wp2_with fail
      go_loopw [9] (fun z wr => ∃ (s : Nat) (vs : List Value), s ≤ N ∧ z = .int .i64 (s : Int) ∧ TabW w.heap.size wr w.heap.size M vs ((tabL K n lr (i + 1)).set i ((rowL K n lr i).take s)) ∧ Chg No w wr) (fun z _ => N - (intOf z).toNat)
      case atStart =>
        refine ⟨0, vs, Nat.zero_le _, rfl, ?_, hch⟩
        have e : (tabL K n lr (i + 1)).set i ((rowL K n lr i).take 0) = tabL K n lr (i + 1) := by
          have h0 := tabL_at K n lr (i + 1) i (by omega)
          rw [if_neg (by omega)] at h0
          rw [List.take_zero]
          apply List.ext_getElem
          · simp
          · intro t h1 h2
            rw [List.getElem_set]
            split
            · rename_i et; subst et
              rw [List.getD_eq_getElem?_getD, List.getElem?_eq_getElem h2] at h0
              exact h0.symm
            · rfl
        rw [e]; exact hT
      case round =>
        clear hT hch vs
        obtain ⟨s, vs, hs, rfl, hT, hch⟩ := hrel
        have hcl := HREQ.out wr hch
        have hs0 : (0 : Int) ≤ (s : Int) := Int.natCast_nonneg _
        have hws : IntKind.i64.wrap ((s : Int) + 1) = (s : Int) + 1 := IntWalk.i64_in _ (by omega)
        by_cases hsN : s < N
        · have hsI : (s : Int) < (N : Int) := by omega
          have hsz := hch.size
          have hrow := hT.row (i + 1) (by omega)
          rw [getD_set_other _ _ _ _ _ (by omega : i ≠ i + 1), tabL_at K n lr (i + 1) (i + 1) (by omega), if_pos (Nat.le_refl _)] at hrow
          obtain ⟨a1, c1, he1, hn1, hm1, hv1⟩ := hrow.view
          rw [rowL_len, HN.out] at he1 hn1 hv1
          obtain ⟨b1, rfl, hb1, hb1', hcells1, _⟩ := hv1 (by omega)
          have hcell1 := (hT.cell (i := i + 1) (by omega)).1
          rw [he1, HI1.out] at hcell1
          have hgl := (hT.os.at).2.2.2.1
          have HROW : Hid (∀ W, Chg No wr W → W.cell? ⟨w.heap.size, i1, none⟩ = some (.slice (some ⟨b1, 0, none⟩) N c1) ∧ ∀ t, t < N → W.cell? ⟨b1, t, none⟩ = some (.int .i64 (dpM K n (lr.drop (i + 1)) t))) := Lib.hid (fun W h => by
            refine ⟨(h.cellD _ _ hgl (fun e => e)).trans hcell1, fun t ht => ?_⟩
            rw [h.cellD _ _ hb1' (fun e => e), hcells1 t ht, rowL_at K n lr (i + 1) t (by rw [HN.out]; exact ht)])
          clear hrow he1 hn1 hm1 hv1 hcells1 hcell1
          have HT := Lib.hid hT
          clear hT
          go_wp2_with fail
          refine (l5Choices_any K n s r hK.2 hn.2 (by omega) (by omega) wr).mono ?_
          rintro e w3 ⟨v3, rfl, o3, k3⟩
          obtain ⟨L, hL⟩ : ∃ L, chs K n s r = L := ⟨_, rfl⟩
          have hLr : ∀ o ∈ L, -1 ≤ o ∧ (0 ≤ o → o < n ∧ s.testBit o.toNat = true) := fun o ho => chs_range (by rw [hL]; exact ho)
          have hLo : szM s ≤ K → ∀ o ∈ L, aft s r o < 2 ^ n ∧ szM (aft s r o) ≤ K := fun h o ho => aft_ok hn.2 (by rw [HN.out]; exact hsN) h hrn (by rw [hL]; exact ho)
          have hdp : dpM K n (lr.drop i) s = if szM s ≤ K then leastM (L.map fun o => dpM K n (lr.drop (i + 1)) (aft s r o) + (if s.testBit r then 0 else 1)) (-1) else -1 := by rw [HDR.out, dpM, hL]
          rw [hL] at o3
          have HLR2 := Lib.hid hLr
          have HLO := Lib.hid hLo
          have HDP := Lib.hid hdp
          clear hLr hLo hdp hL
          obtain ⟨la, lc, rfl, hlc1, hlc2, hlv⟩ := id o3.view
          have HLV := Lib.hid hlv
          clear hlv
          go_wp2_with fail
          go_loopw [10, 12] (fun vb z wq => ∃ (j : Nat) (b : Int), j ≤ L.length ∧ z = .int .i64 (j : Int) ∧ vb = .int .i64 b ∧ Hid (b = if szM s ≤ K then leastM ((L.take j).map fun o => dpM K n (lr.drop (i + 1)) (aft s r o) + (if s.testBit r then 0 else 1)) (-1) else -1) ∧ Hid (szM s ≤ K ∨ j = 0) ∧ Chg No w3 wq) (fun _ z _ => L.length - (intOf z).toNat)
          case atStart => exact ⟨0, -1, Nat.zero_le _, rfl, rfl, Lib.hid (by simp [leastM]), Lib.hid (.inr rfl), Chg.refl _ _⟩
          case round =>
            obtain ⟨j, b, hj, rfl, rfl, HB, HZ, hq⟩ := hrel
            have hj0 : (0 : Int) ≤ (j : Int) := Int.natCast_nonneg _
            by_cases hgo : j < L.length ∧ szM s ≤ K
            · obtain ⟨hjl, hsk⟩ := hgo
              have hj1 : (j : Int) < (L.length : Int) := by omega
              have hskI : (szM s : Int) ≤ (K : Int) := by omega
              obtain ⟨cb, rfl, _, hcb, hccell, _⟩ := HLV.out (by omega)
              have hc1 := (hq.cellD cb j hcb (fun e => e)).trans (hccell j hjl)
              obtain ⟨o, ho⟩ : ∃ o, L.getD j 0 = o := ⟨_, rfl⟩
              rw [ho] at hc1
              have hom : o ∈ L := ho ▸ getD_mem hjl
              obtain ⟨t, ht⟩ : ∃ t, aft s r o = t := ⟨_, rfl⟩
              have htok := HLO.out hsk o hom
              rw [ht, HN.out] at htok
              obtain ⟨hr1, hr2⟩ := HROW.out wr (k3.keep hq)
              have hr3 := hr2 t htok.1
              obtain ⟨d, hd⟩ : ∃ d, dpM K n (lr.drop (i + 1)) t = d := ⟨_, rfl⟩
              rw [hd] at hr3
              have hdb := dpM_spec (k := K) hK.1 hn.2 (lr.drop (i + 1)) t (fun x hx => HLOW.out x (List.mem_of_mem_drop hx)) (by rw [HN.out]; exact htok.1) htok.2
              rw [hd, List.length_drop] at hdb
              have hd0 := hdb.1
              have hd1 : d ≤ 60 := by have := hdb.2.1; omega
              have hreq := HREQ.out wr ((hch.keep k3).keep hq)
              have hor := HLR2.out o hom
              have hstep : ∀ b2 : Int, (b2 = if b < 0 ∨ d + (if s.testBit r then 0 else 1) < b then d + (if s.testBit r then 0 else 1) else b) →
                  b2 = if szM s ≤ K then leastM ((L.take (j + 1)).map fun o => dpM K n (lr.drop (i + 1)) (aft s r o) + (if s.testBit r then 0 else 1)) (-1) else -1 := fun b2 e => by
                have hb := HB.out
                rw [if_pos hsk] at hb
                have hgj : L[j] = o := by rw [← ho, List.getD_eq_getElem?_getD, List.getElem?_eq_getElem hjl]; rfl
                rw [if_pos hsk, List.take_succ_eq_append_getElem hjl, List.map_append, List.map_singleton, leastM_snoc, ← hb, hgj, ht, hd]
                exact e
              have HSTEP := Lib.hid hstep
              have ht0 : (t : Int) < (N : Int) := by omega
              have hwj : IntKind.i64.wrap ((j : Int) + 1) = (j : Int) + 1 := IntWalk.i64_in _ (by omega)
              have hwd : IntKind.i64.wrap (d + 1) = d + 1 := IntWalk.i64_in _ (by omega)
              clear hstep hdb hr2 hom hd htok HB hccell ho
              go_wp2_with (go_at_call 217; refine (l5Size_any s (by omega) _).mono ?_; rintro e w' ⟨rfl, hww⟩; subst hww)
              have hor8 : 0 ≤ o → o < 8 ∧ s.testBit o.toNat = true := fun h => ⟨by have := (hor.2 h).1; omega, (hor.2 h).2⟩
              have hAft : ∀ w, Calls Tryz.prog 218 #[.int .i64 (s : Int), .int .i64 (r : Int), .int .i64 o] w fun e w' => e = .returned (.int .i64 (t : Int)) ∧ w = w' := fun w => by
                rw [← ht]; exact l5After_any s r o (by omega) (by omega) w hor.1 hor8
              go_quiet ((go_at_call 218; exact quiet_sym (hAft _)))
              have kd := (Chg.refl No wr).drewN nq
              have hreq1 := (kd.cellD rb (off + i) (by have := (k3.keep hq).size; have := hch.size; omega) (fun e => e)).trans hreq
              replace hq := hq.keep kd
              clear hr1 hr3 hc1 hreq kd hor hor8
              generalize wr.drewN nq = W5 at hq hreq1 ⊢
              cases hbit : s.testBit r
              all_goals
                have HBIT := Lib.hid hbit
                clear hbit
                go_wp2_with (go_at_call 219; refine (l5In_any s r (by omega) (by omega) _).mono ?_; rintro e w' ⟨rfl, hww⟩; subst hww; rw [HBIT.out])
              all_goals
                go_round
                case rel => exact ⟨j + 1, _, by omega, by go_num, rfl, Lib.hid (HSTEP.out _ (by rw [HBIT.out]; simp only [Bool.false_eq_true, if_false, if_true]; split <;> omega)), Lib.hid (.inl hsk), hq⟩
                case measure => simp [intOf]; omega
            · have HV : Hid (b = dpM K n (lr.drop i) s) := Lib.hid (by
                rw [HDP.out, HB.out]
                split
                · rename_i hsk
                  have : j = L.length := by
                    have : ¬ j < L.length := fun e => hgo ⟨e, hsk⟩
                    omega
                  rw [this, List.take_length]
                · rfl)
              have hTq := (HT.out.keep k3).keep hq
              have hrow := hTq.row i (by omega)
              obtain ⟨hcg, hfg⟩ := hTq.cell (i := i) (by omega)
              have hlst : ((tabL K n lr (i + 1)).set i ((rowL K n lr i).take s)).getD i [] = (rowL K n lr i).take s := getD_set_self _ _ _ _ (by rw [tabL_len]; omega)
              rw [hlst] at hrow
              obtain ⟨R, hR⟩ : ∃ R, (rowL K n lr i).take s = R := ⟨_, rfl⟩
              have hRl : R.length < 17592186044416 := by rw [← hR, List.length_take]; omega
              rw [hR] at hrow
              have HR := Lib.hid hR
              have HVS : Hid (vs.getD i undef = vs.getD i undef) := Lib.hid rfl
              obtain ⟨x, hx⟩ : ∃ x, vs.getD i undef = x := ⟨_, rfl⟩
              rw [hx] at hrow hcg
              obtain ⟨xa, xc, rfl, _⟩ := id hrow.view
              have HX := Lib.hid hx
              have chq := (hch.keep k3).keep hq
              have hszq := chq.size
              have hgq : w.heap.size < wr.heap.size := (hTq.os.at).2.2.2.1
              have HTQ := Lib.hid hTq
              clear hx hR hlst hTq HB HDP
              by_cases hjl : j < L.length
              · have hsk : (K : Int) < (szM s : Int) := by
                  have : ¬ szM s ≤ K := fun e => hgo ⟨hjl, e⟩
                  omega
                have hj1 : (j : Int) < (L.length : Int) := by omega
                clear hgo
                go_wp2_with (first
                  | (go_at_call 217; refine (l5Size_any s (by omega) _).mono ?_; rintro e w' ⟨rfl, hww⟩; subst hww)
                  | (at_builtin; refine wapp1 rfl (.tmp 97) (.tmp 99) rfl hrow rfl rfl hRl hszq ?_))
                intro v9 w9 o9 k9 f9
                rw [HV.out, ← HR.out, ← rowL_snoc K n lr i s (by rw [HN.out]; exact hsN)] at o9
                have k9' : Chg (own (vs.getD i undef)) wr w9 := by rw [HX.out]; exact k9
                obtain ⟨hT9, c9⟩ := HTQ.out.put (i := i) (by omega) o9 k9' (fun q hq => by rw [HX.out]; exact f9 q hq)
                have hlow9 := HTQ.out.low (i := i) (by omega)
                have hng : ¬ own (vs.getD i undef) w.heap.size := fun e => HTQ.out.far i (by omega) _ e rfl
                have hcg9 := (k9'.cellD w.heap.size i hgq hng).trans hcg
                have hfg9 := (k9'.frozenD w.heap.size i hgq hng).trans hfg
                rw [set_set_same] at hT9
                obtain ⟨R9, hR9⟩ : ∃ R9, (rowL K n lr i).take (s + 1) = R9 := ⟨_, rfl⟩
                rw [hR9] at hT9 o9
                have HR9 := Lib.hid hR9
                clear hR9
                have ch9 := chq.step c9 (fun q hq hl => by have := hlow9 q hq; omega)
                obtain ⟨ya, yc, rfl, _⟩ := id o9.view
                clear k9 k9' c9 hlow9 hcg hfg
                go_wp2_with fail
                clear hcg9 hfg9
                go_round
                case rel => exact ⟨s + 1, _, by omega, by go_num, by rw [HR9.out]; exact hT9, ch9⟩
                case measure => simp [intOf]; omega
              · have hj1 : ¬ ((j : Int) < (L.length : Int)) := by omega
                clear hgo
                go_wp2_with (first
                  | (go_at_call 217; refine (l5Size_any s (by omega) _).mono ?_; rintro e w' ⟨rfl, hww⟩; subst hww)
                  | (at_builtin; refine wapp1 rfl (.tmp 97) (.tmp 99) rfl hrow rfl rfl hRl hszq ?_))
                intro v9 w9 o9 k9 f9
                rw [HV.out, ← HR.out, ← rowL_snoc K n lr i s (by rw [HN.out]; exact hsN)] at o9
                have k9' : Chg (own (vs.getD i undef)) wr w9 := by rw [HX.out]; exact k9
                obtain ⟨hT9, c9⟩ := HTQ.out.put (i := i) (by omega) o9 k9' (fun q hq => by rw [HX.out]; exact f9 q hq)
                have hlow9 := HTQ.out.low (i := i) (by omega)
                have hng : ¬ own (vs.getD i undef) w.heap.size := fun e => HTQ.out.far i (by omega) _ e rfl
                have hcg9 := (k9'.cellD w.heap.size i hgq hng).trans hcg
                have hfg9 := (k9'.frozenD w.heap.size i hgq hng).trans hfg
                rw [set_set_same] at hT9
                obtain ⟨R9, hR9⟩ : ∃ R9, (rowL K n lr i).take (s + 1) = R9 := ⟨_, rfl⟩
                rw [hR9] at hT9 o9
                have HR9 := Lib.hid hR9
                clear hR9
                have ch9 := chq.step c9 (fun q hq hl => by have := hlow9 q hq; omega)
                obtain ⟨ya, yc, rfl, _⟩ := id o9.view
                clear k9 k9' c9 hlow9 hcg hfg
                go_wp2_with fail
                clear hcg9 hfg9
                go_round
                case rel => exact ⟨s + 1, _, by omega, by go_num, by rw [HR9.out]; exact hT9, ch9⟩
                case measure => simp [intOf]; omega
        · have hsl : s = N := by omega
          subst hsl
          have hTN := hT
          rw [List.take_of_length_le (by rw [rowL_len, HN.out]; exact Nat.le_refl _), tabL_set K n lr i (by omega)] at hTN
          have HTN := Lib.hid hTN
          clear hTN hT hcl
          go_wp2_with fail
          go_round
          case rel => exact ⟨i, vs, by omega, rfl, HTN.out, hch⟩
          case measure => show ((i : Int) - 1 + 1).toNat < ((i : Int) + 1).toNat; omega
end Go.Proofs.YtmfhlojmoehmiaaGreat
