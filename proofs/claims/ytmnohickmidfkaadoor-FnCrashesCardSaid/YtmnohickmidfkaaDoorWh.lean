import Derived.Test.YtmnohickmidfkaaDoorYu
import Derived.Test.YtmnohickmidfkaaDoorWg
/- logs with one record more, and synced: plain; encodings, records compared -/
namespace Go.Proofs.YtmnohickmidfkaaDoor
open Go.RowKit

theorem okC_no10 {s : List UInt8} (h : s.all okC = true) : (10 : UInt8) ∉ s := fun hx => by
  have := List.all_eq_true.1 h 10 hx
  revert this
  decide
theorem line_no10 (k : Nat) (c r : List UInt8) (h : recB c r = true) : (10 : UInt8) ∉ lineL k c r := by
  obtain ⟨_, _, h3, _, _, h6⟩ := recB_parts h
  unfold lineL sealL textL
  simp only [List.mem_append, List.mem_cons]
  rintro ((hx | hx | hx | hx | hx) | hx | hx)
  · exact dec_notin k 10 (by decide) hx
  · exact absurd hx (by decide)
  · exact okC_no10 h3 hx
  · exact absurd hx (by decide)
  · exact okC_no10 h6 hx
  · exact absurd hx (by decide)
  · exact dec_notin _ 10 (by decide) hx
theorem cut_app (s x : List UInt8) (h : (10 : UInt8) ∈ s) : preB 10 (s ++ x) = preB 10 s ∧ postB 10 (s ++ x) = postB 10 s ++ x := by
  have e : s ++ x = preB 10 s ++ 10 :: (postB 10 s ++ x) := by
    rw [← List.cons_append, ← List.append_assoc, pre_post 10 s h]
  rw [e]
  exact pre_join 10 _ _ (pre_notin 10 s)
theorem openB_nil (n j : Nat) : openB n j [] = [] := by
  cases n with
  | zero => rfl
  | succ n => unfold openB; rw [if_neg (by simp)]
theorem openB_some {n j : Nat} {s c r : List UInt8} (h : (10 : UInt8) ∈ s) (hd : decB j (preB 10 s) = some (c, r)) : openB (n + 1) j s = (c, r, (preB 10 s).length + 1) :: openB n (j + 1) (postB 10 s) := by
  show (if (10 : UInt8) ∈ s then _ else _) = _
  rw [if_pos h, hd]
theorem openB_none {n j : Nat} {s : List UInt8} (h : (10 : UInt8) ∈ s) (hd : decB j (preB 10 s) = none) : openB (n + 1) j s = [] := by
  show (if (10 : UInt8) ∈ s then _ else _) = _
  rw [if_pos h, hd]
theorem openB_app : ∀ (n j : Nat) (s c r : List UInt8), lenB (openB n j s) = s.length → (openB n j s).length < n → j + (openB n j s).length < 60 → recB c r = true →
    openB n j (s ++ (lineL (j + (openB n j s).length) c r ++ [10])) = openB n j s ++ [(c, r, (lineL (j + (openB n j s).length) c r).length + 1)]
  | 0, _, _, _, _, _, h, _, _ => absurd h (Nat.not_lt_zero _)
  | n + 1, j, s, c, r, hl, hn, hj, hr => by
    by_cases h10 : (10 : UInt8) ∈ s
    · have hlen := congrArg List.length (pre_post 10 s h10)
      simp only [List.length_append, List.length_cons] at hlen
      cases hd : decB j (preB 10 s) with
      | none =>
        have e0 : openB (n + 1) j s = [] := openB_none h10 hd
        rw [e0] at hl
        simp only [lenB] at hl
        omega
      | some e =>
        obtain ⟨c', r'⟩ := e
        have e0 : openB (n + 1) j s = (c', r', (preB 10 s).length + 1) :: openB n (j + 1) (postB 10 s) := openB_some h10 hd
        have e2 : ∀ x, openB (n + 1) j (s ++ x) = (c', r', (preB 10 s).length + 1) :: openB n (j + 1) (postB 10 s ++ x) := fun x => by
          have h := openB_some (n := n) (j := j) (s := s ++ x) (c := c') (r := r') (List.mem_append_left _ h10) (by rw [(cut_app s x h10).1]; exact hd)
          rw [(cut_app s x h10).1, (cut_app s x h10).2] at h
          exact h
        rw [e0] at hl hn hj ⊢
        simp only [lenB, List.length_cons] at hl hn hj
        have ih := openB_app n (j + 1) (postB 10 s) c r (by omega) (by omega) (by omega) hr
        have e1 : j + ((openB n (j + 1) (postB 10 s)).length + 1) = j + 1 + (openB n (j + 1) (postB 10 s)).length := by omega
        rw [List.length_cons, e1, e2, ih]
        rfl
    · have e0 : openB (n + 1) j s = [] := by unfold openB; rw [if_neg h10]
      rw [e0] at hl hj ⊢
      have hs : s = [] := List.eq_nil_of_length_eq_zero hl.symm
      subst hs
      simp only [List.length_nil, Nat.add_zero, List.nil_append] at hj ⊢
      have hnl := line_no10 j c r hr
      unfold openB
      rw [if_pos (by simp), (pre_join 10 (lineL j c r) [] hnl).1, (pre_join 10 (lineL j c r) [] hnl).2, decB_of hj hr rfl]
      simp only
      rw [openB_nil]
theorem lenB_bound : ∀ (n j : Nat) (s : List UInt8), lenB (openB n j s) ≤ 372 * (openB n j s).length
  | 0, _, _ => Nat.zero_le _
  | n + 1, j, s => by
    unfold openB
    split
    · cases hd : decB j (preB 10 s) with
      | none => exact Nat.zero_le _
      | some e =>
        obtain ⟨c, r⟩ := e
        have h1 := lenB_bound n (j + 1) (postB 10 s)
        obtain ⟨hk, hr, hl, _⟩ := decB_some hd
        have h2 := line_len j c r hk hr
        rw [hl] at h2
        simp only [lenB, List.length_cons]
        omega
    · exact Nat.zero_le _
theorem valid_full {d p : List UInt8} {n : Int} (h : validB d p n = true) : d.length + p.length ≤ 30000 ∧ lenB (openB 60 0 (d ++ p)) = d.length + p.length ∧ lenB (openB 60 0 d) = d.length ∧ ((openB 60 0 (d ++ p)).length : Int) = n := by
  unfold validB at h
  simpa only [Bool.and_eq_true, decide_eq_true_eq] using h
theorem valid_app {d p c r : List UInt8} {k : Nat} (h : validB d p (k : Int) = true) (hk : k < 60) (hr : recB c r = true) :
    validB d (p ++ (lineL k c r ++ [10])) ((k : Int) + 1) = true ∧ openB 60 0 (d ++ (p ++ (lineL k c r ++ [10]))) = openB 60 0 (d ++ p) ++ [(c, r, (lineL k c r).length + 1)] := by
  obtain ⟨h1, h2, h3, h4⟩ := valid_full h
  have hkl : (openB 60 0 (d ++ p)).length = k := by omega
  have e := openB_app 60 0 (d ++ p) c r (by rw [h2, List.length_append]) (by omega) (by omega) hr
  rw [hkl, Nat.zero_add, List.append_assoc] at e
  have hb := lenB_bound 60 0 (d ++ p)
  have hl := line_len k c r hk hr
  refine ⟨?_, e⟩
  unfold validB
  rw [e, lenB_snoc, h3, h2]
  simp only [List.length_append, List.length_singleton, hkl, Bool.and_eq_true, decide_eq_true_eq]
  refine ⟨by omega, by omega, trivial, by omega⟩
theorem valid_sync {d p : List UInt8} {n : Int} (h : validB d p n = true) : validB (d ++ p) [] n = true ∧ recL (d ++ p) [] n = recL d p n := by
  obtain ⟨h1, h2, h3, h4⟩ := valid_full h
  have hv : validB (d ++ p) [] n = true := by
    unfold validB
    simp only [List.append_nil, List.length_append, List.length_nil, Bool.and_eq_true, decide_eq_true_eq]
    exact ⟨by omega, by omega, h2, h4⟩
  refine ⟨hv, ?_⟩
  unfold recL
  rw [hv, h, List.append_nil]

def encBI (k : Int) (c r : List UInt8) : Bool := inB k 0 59 && recB c r
def encTI (k : Int) (c r : List UInt8) : List UInt8 := if encBI k c r then lineL k.toNat c r ++ [10] else []
set_option maxRecDepth 100000 in
set_option maxHeartbeats 1000000 in
theorem implEnc_any (k : Int) (c r : List UInt8) (w : World) (hk : -1 ≤ k ∧ k ≤ 60) (hc : c.length ≤ 64) (hr : r.length ≤ 64) (hw : Lay w) :
    Calls Tryd.prog 35 #[.int .i64 k, rv c r] w fun e w' => e = .returned (.tuple #[.string ⟨(encTI k c r).toArray⟩, .bool (encBI k c r)]) ∧ Chg No w w' := by
  by_cases h0 : 0 ≤ k
  · obtain ⟨m, rfl⟩ := Int.eq_ofNat_of_zero_le h0
    have := EncodeRecord_any m c r w (by omega) (by omega) (by omega) hw
    have e1 : encBI (m : Int) c r = encB m c r := rfl
    have e2 : encTI (m : Int) c r = encT m c r := by unfold encTI encT; rw [e1]; rfl
    rw [e1, e2]
    exact this
  · have hf : inB k 0 59 = false := by unfold inB; simp; omega
    have hB : Hid (encBI k c r = false) := Lib.hid (by simp [encBI, hf])
    have hT : Hid (encTI k c r = []) := Lib.hid (by rw [encTI, hB.out]; rfl)
    have k0 := (Chg.refl No w).alloc (.cells #[.string ⟨c.toArray⟩, .string ⟨r.toArray⟩] 43)
    obtain ⟨c0, c1, fr⟩ := Box2.new w (.string ⟨c.toArray⟩) (.string ⟨r.toArray⟩) 43
    rw [hB.out, hT.out]
    unfold rv
    go_enter Tryd.func35, Tryd.ntmps35
    go_wp2_with (go_at_call 49; refine (within_any _ _ _ _).mono ?_; rintro e w' ⟨rfl, rfl⟩)
    all_goals go_ret2
    all_goals exact ⟨rfl, k0⟩
set_option maxRecDepth 100000 in
set_option maxHeartbeats 1000000 in
theorem specEnc_any (k : Int) (c r : List UInt8) (w : World) (hk : -1 ≤ k ∧ k ≤ 60) (hc : c.length ≤ 64) (hr : r.length ≤ 64) :
    Calls Tryd.prog 36 #[.int .i64 k, rv c r] w fun e w' => e = .returned (.tuple #[.string ⟨(encTI k c r).toArray⟩, .bool (encBI k c r)]) ∧ Chg No w w' := by
  have k0 := (Chg.refl No w).alloc (.cells #[.string ⟨c.toArray⟩, .string ⟨r.toArray⟩] 43)
  have bx := Box2.new w (.string ⟨c.toArray⟩) (.string ⟨r.toArray⟩) 43
  have HB := Lib.hid bx
  obtain ⟨c0, c1, fr⟩ := bx
  have q2 := Lib.hid (fun W => l12Record_any c r W (by omega) (by omega))
  cases hi : inB k 0 59 with
  | false =>
    have hB : Hid (encBI k c r = false) := Lib.hid (by simp [encBI, hi])
    have hT : Hid (encTI k c r = []) := Lib.hid (by rw [encTI, hB.out]; rfl)
    rw [hB.out, hT.out]
    unfold rv
    go_enter Tryd.func36, Tryd.ntmps36
    go_wp2_with (go_at_call 48; refine (l1In_any _ _ _ _).mono ?_; rintro e w' ⟨rfl, rfl⟩)
    all_goals go_ret2
    all_goals exact ⟨rfl, k0⟩
  | true =>
    have hkk := inB_iff.1 hi
    obtain ⟨m, rfl⟩ := Int.eq_ofNat_of_zero_le hkk.1
    have q3 := Lib.hid (fun W => l12Line_any m c r W (by omega) (by omega) (by omega))
    unfold rv at q2 q3 ⊢
    cases hr2 : recB c r with
    | false =>
      have hB : Hid (encBI (m : Int) c r = false) := Lib.hid (by simp [encBI, hr2])
      have hT : Hid (encTI (m : Int) c r = []) := Lib.hid (by rw [encTI, hB.out]; rfl)
      rw [hB.out, hT.out]
      rw [hr2] at q2
      go_enter Tryd.func36, Tryd.ntmps36
      go_wp2_with (first | (go_at_call 48; refine (l1In_any _ _ _ _).mono ?_; rintro e w' ⟨rfl, rfl⟩) | (go_at_call 50; refine (q2.out _).mono ?_; rintro e w1 ⟨rfl, hk1⟩; obtain ⟨c0, c1, fr⟩ := HB.out.keep hk1))
      all_goals go_ret2
      all_goals exact ⟨rfl, k0.trans hk1⟩
    | true =>
      have hB : Hid (encBI (m : Int) c r = true) := Lib.hid (by simp [encBI, hr2, hi])
      have hT : Hid (encTI (m : Int) c r = lineL m c r ++ [10]) := Lib.hid (by rw [encTI, hB.out]; rfl)
      obtain ⟨Z, hZ⟩ : ∃ Z, lineL m c r ++ [10] = Z := ⟨_, rfl⟩
      rw [hB.out, hT.out, hZ]
      rw [hr2] at q2
      rw [hZ] at q3
      clear hZ
      go_enter Tryd.func36, Tryd.ntmps36
      go_wp2_with (first | (go_at_call 48; refine (l1In_any _ _ _ _).mono ?_; rintro e w' ⟨rfl, rfl⟩) | (go_at_call 50; refine (q2.out _).mono ?_; rintro e w1 ⟨rfl, hk1⟩; obtain ⟨c0, c1, fr⟩ := HB.out.keep hk1) | (go_at_call 51; refine (q3.out _).mono ?_; rintro e w2 ⟨rfl, hk2⟩))
      all_goals go_ret2
      all_goals exact ⟨rfl, k0.trans (hk1.trans hk2)⟩
set_option maxRecDepth 100000 in
theorem specIsRec_any (c r : List UInt8) (w : World) (hc : c.length ≤ 64) (hr : r.length ≤ 64) :
    Calls Tryd.prog 40 #[rv c r] w fun e w' => e = .returned (.bool (recB c r)) ∧ Chg No w w' := by
  have k0 := (Chg.refl No w).alloc (.cells #[.string ⟨c.toArray⟩, .string ⟨r.toArray⟩] 43)
  obtain ⟨c0, c1, fr⟩ := Box2.new w (.string ⟨c.toArray⟩) (.string ⟨r.toArray⟩) 43
  have q2 := Lib.hid (fun W => l12Record_any c r W (by omega) (by omega))
  unfold rv at q2 ⊢
  go_enter Tryd.func40, Tryd.ntmps40
  go_wp2_with (go_at_call 50; refine (q2.out _).mono ?_; rintro e w1 ⟨rfl, hk1⟩)
  go_ret
  exact ⟨rfl, k0.trans hk1⟩

set_option maxRecDepth 100000 in
set_option maxHeartbeats 2000000 in
theorem vRecS_same (v v' : Value) (L : List (List UInt8 × List UInt8 × Nat)) (w : World) (hL : L.length ≤ 61) (h : RF No w v 2 L.length (recC L)) (h' : RF No w v' 2 L.length (recC L)) :
    Calls Tryd.prog 41 #[v, v'] w fun e w' => e = .returned (.bool true) ∧ Chg No w w' := by
  have hrl := recC_len L
  have HG := Lib.hid (recC_get L)
  obtain ⟨n, hn⟩ : ∃ n, L.length = n := ⟨_, rfl⟩
  obtain ⟨cs, hcs⟩ : ∃ cs, recC L = cs := ⟨_, rfl⟩
  rw [hcs, hn] at h h' HG hrl
  rw [hn] at hL
  have HRL := Lib.hid hrl
  clear hn hcs hrl
  obtain ⟨a, cap, rfl, hc1, hc2, _, _, hcell⟩ := id h
  obtain ⟨a', cq, rfl, hc1', hc2', _, _, hcell'⟩ := id h'
  have HC := Lib.hid hcell
  have HC' := Lib.hid hcell'
  clear hcell hcell'
  go_enter Tryd.func41, Tryd.ntmps41
  go_wp2_with fail
  go_loopw [5] (fun i wr => ∃ j : Nat, j ≤ n ∧ i = .int .i64 j ∧ Chg No w wr) (fun i _ => n - (intOf i).toNat)
  case atStart => exact ⟨0, Nat.zero_le _, rfl, Chg.refl No w⟩
  case round =>
    obtain ⟨j, hj, rfl, hch⟩ := hrel
    by_cases hlt : j < n
    · obtain ⟨b, off, rfl, _, hb, hcell⟩ := HC.out (by omega)
      obtain ⟨bq, oq, rfl, _, hb', hcell'⟩ := HC'.out (by omega)
      obtain ⟨c, r, g0, g1⟩ := HG.out j hlt
      have f0 := hcell (j * 2) (by rw [HRL.out]; omega)
      have f1 := hcell (j * 2 + 1) (by rw [HRL.out]; omega)
      have f0' := hcell' (j * 2) (by rw [HRL.out]; omega)
      have f1' := hcell' (j * 2 + 1) (by rw [HRL.out]; omega)
      rw [g0] at f0 f0'
      rw [g1, ← Nat.add_assoc] at f1 f1'
      clear hcell hcell' g0 g1
      have hj0 : (0 : Int) ≤ (j : Int) := Int.natCast_nonneg _
      have hj1 : (j : Int) < (n : Int) := by omega
      have hw1 : IntKind.i64.wrap ((j : Int) + 1) = (j : Int) + 1 := IntWalk.i64_in _ (by omega)
      obtain ⟨C, hC1, hC2⟩ : ∃ C : World → Prop, (∀ W, C W → Chg No w W) ∧ (∀ W, Chg No w W → C W) := ⟨_, fun _ h => h, fun _ h => h⟩
      have HCELL : Hid (∀ W, C W → W.cell? ⟨b, off + j * 2, none⟩ = some (.string ⟨c.toArray⟩) ∧ W.cell? ⟨b, off + j * 2 + 1, none⟩ = some (.string ⟨r.toArray⟩) ∧ W.cell? ⟨bq, oq + j * 2, none⟩ = some (.string ⟨c.toArray⟩) ∧ W.cell? ⟨bq, oq + j * 2 + 1, none⟩ = some (.string ⟨r.toArray⟩)) := Lib.hid (fun W hW =>
        ⟨((hC1 W hW).cellD b _ hb (fun e => e)).trans f0, ((hC1 W hW).cellD b _ hb (fun e => e)).trans f1, ((hC1 W hW).cellD bq _ hb' (fun e => e)).trans f0', ((hC1 W hW).cellD bq _ hb' (fun e => e)).trans f1'⟩)
      have HX := Lib.hid hC1
      have HI := Lib.hid hC2
      have hC0 := hC2 _ hch.drew
      clear hC1 hC2 f0 f1 f0' f1'
      go_wp2_with fail
      refine wp_region_X C (by kernel_rfl) (by kernel_rfl) hC0 ?_
      clear hC0
      refine wpX_val (.slice (some ⟨b, off, none⟩) n cap) rfl (by intro W hW; obtain ⟨d0, d1, e0, e1⟩ := HCELL.out W hW; go_simp) ?_
      simp only [Act.put, List.setIfInBounds_toArray, List.set_cons_zero, List.set_cons_succ]
      refine wpX_val (.int .i64 j) rfl (by intro W hW; obtain ⟨d0, d1, e0, e1⟩ := HCELL.out W hW; go_simp) ?_
      simp only [Act.put, List.setIfInBounds_toArray, List.set_cons_zero, List.set_cons_succ]
      refine wpX_val (.pointer (some ⟨b, off + j * 2, none⟩)) rfl (by intro W hW; obtain ⟨d0, d1, e0, e1⟩ := HCELL.out W hW; go_simp) ?_
      simp only [Act.put, List.setIfInBounds_toArray, List.set_cons_zero, List.set_cons_succ]
      refine wpX_val (.agg #[.string ⟨c.toArray⟩, .string ⟨r.toArray⟩]) rfl (by intro W hW; obtain ⟨d0, d1, e0, e1⟩ := HCELL.out W hW; go_simp) ?_
      simp only [Act.put, List.setIfInBounds_toArray, List.set_cons_zero, List.set_cons_succ]
      refine wpX_val (.slice (some ⟨bq, oq, none⟩) n cq) rfl (by intro W hW; obtain ⟨d0, d1, e0, e1⟩ := HCELL.out W hW; go_simp) ?_
      simp only [Act.put, List.setIfInBounds_toArray, List.set_cons_zero, List.set_cons_succ]
      refine wpX_val (.int .i64 j) rfl (by intro W hW; obtain ⟨d0, d1, e0, e1⟩ := HCELL.out W hW; go_simp) ?_
      simp only [Act.put, List.setIfInBounds_toArray, List.set_cons_zero, List.set_cons_succ]
      refine wpX_val (.pointer (some ⟨bq, oq + j * 2, none⟩)) rfl (by intro W hW; obtain ⟨d0, d1, e0, e1⟩ := HCELL.out W hW; go_simp) ?_
      simp only [Act.put, List.setIfInBounds_toArray, List.set_cons_zero, List.set_cons_succ]
      refine wpX_val (.agg #[.string ⟨c.toArray⟩, .string ⟨r.toArray⟩]) rfl (by intro W hW; obtain ⟨d0, d1, e0, e1⟩ := HCELL.out W hW; go_simp) ?_
      simp only [Act.put, List.setIfInBounds_toArray, List.set_cons_zero, List.set_cons_succ]
      refine wpX_val (.bool false) rfl (by intro W hW; obtain ⟨d0, d1, e0, e1⟩ := HCELL.out W hW; go_simp) ?_
      simp only [Act.put, List.setIfInBounds_toArray, List.set_cons_zero, List.set_cons_succ]
      refine wpX_nil (fun W hW => ?_)
      have g2 := HX.out W hW
      go_wp2_with fail
      go_round
      case rel => exact ⟨j + 1, by omega, by go_num, g2⟩
      case measure => simp [intOf]; omega
    · have hjl : j = n := by omega
      subst hjl
      go_wp2_with fail
      go_ret
      exact ⟨rfl, hch⟩
end Go.Proofs.YtmnohickmidfkaaDoor
