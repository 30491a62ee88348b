import Derived.Test.YtmnohickmidfkaaDoorYj
/- the records at the beginning of bytes, read by the program -/
namespace Go.Proofs.YtmnohickmidfkaaDoor
open Go.RowKit

def endsI (D : List (List UInt8 × List UInt8 × Nat)) : List Int := (endsB 0 D).map (fun x : Nat => (x : Int))
theorem endsI_snoc (D : List (List UInt8 × List UInt8 × Nat)) (x : List UInt8 × List UInt8 × Nat) : endsI (D ++ [x]) = endsI D ++ [((lenB D + x.2.2 : Nat) : Int)] := by
  unfold endsI
  rw [endsB_snoc, List.map_append, Nat.zero_add]
  rfl
theorem endsI_len (D : List (List UInt8 × List UInt8 × Nat)) : (endsI D).length = D.length := by
  unfold endsI
  rw [List.length_map, endsB_len]
theorem Opened.notin' {s : List UInt8} {D R : List (List UInt8 × List UInt8 × Nat)} (h : Opened s D R) (h10 : hasL 10 (s.drop (lenB D)) = false) : openB 60 0 s = D := by
  refine h.notin ?_
  unfold hasL at h10
  simpa using h10
theorem read_end {s : List UInt8} {D : List (List UInt8 × List UInt8 × Nat)} {n base : Nat} {cs : List Value} {es : List Int} {v v2 : Value} {w W : World} (HE : openB 60 0 s = D) (hn : D.length = n) (hc : recC D = cs) (hes : endsI D = es)
    (ho : OS 43 2 base W v n cs) (h2 : OI base W v2 es) (hd : ∀ q, own v q → ¬ own v2 q) (hch : Chg No w W) :
    ∃ v' v2', Ending.returned (.tuple #[v, v2]) = .returned (.tuple #[v', v2']) ∧ OS 43 2 base W v' (openB 60 0 s).length (recC (openB 60 0 s)) ∧ OI base W v2' (endsI (openB 60 0 s)) ∧ (∀ q, own v' q → ¬ own v2' q) ∧ Chg No w W := by
  subst hn hc hes
  rw [HE]
  exact ⟨v, v2, rfl, ho, h2, hd, hch⟩
set_option maxRecDepth 100000 in
set_option maxHeartbeats 2000000 in
theorem readRecords_any (s : List UInt8) (w : World) (hs : s.length ≤ 1048576) (hw : Lay w) :
    Calls Tryd.prog 45 #[.string ⟨s.toArray⟩] w fun e w' => ∃ v v2, e = .returned (.tuple #[v, v2]) ∧ OS 43 2 w.heap.size w' v (openB 60 0 s).length (recC (openB 60 0 s)) ∧ OI w.heap.size w' v2 (endsI (openB 60 0 s)) ∧ (∀ q, own v q → ¬ own v2 q) ∧ Chg No w w' := by
  go_enter Tryd.func45, Tryd.ntmps45
  go_wp2_with fail
  go_loopw [4, 5, 6] (fun o en a wr => ∃ (D R : List (List UInt8 × List UInt8 × Nat)), Hid (Opened s D R) ∧ a = .int .i64 (lenB D) ∧ OS 43 2 w.heap.size wr o D.length (recC D) ∧ OI w.heap.size wr en (endsI D) ∧ (∀ q, own o q → ¬ own en q) ∧ Chg No w wr) (fun _ _ a _ => s.length - (intOf a).toNat)
  case atStart => exact ⟨[], openB 60 0 s, Lib.hid (Opened.zero s), rfl, (OS.zero (Nat.le_refl _)).alloc _, OI.zeroAt (by rw [World.size_alloc]) (by omega), fun q hq hq' => by (have h1 := own_slice.1 hq; have h2 := own_slice.1 hq'; omega), ((Chg.refl No w).alloc _).alloc _⟩
  case round =>
    obtain ⟨D, R, HO, rfl, ho, hen, hdis, hch⟩ := hrel
    have hle := HO.out.le
    have hn60 := HO.out.n
    have hel := endsI_len D
    obtain ⟨n, hn⟩ : ∃ n, D.length = n := ⟨_, rfl⟩
    obtain ⟨k, hk⟩ : ∃ k, lenB D = k := ⟨_, rfl⟩
    obtain ⟨cs, hcs⟩ : ∃ cs, recC D = cs := ⟨_, rfl⟩
    obtain ⟨es, hes⟩ : ∃ es, endsI D = es := ⟨_, rfl⟩
    have HN := Lib.hid hn
    have HK := Lib.hid hk
    have HC := Lib.hid hcs
    have HES := Lib.hid hes
    rw [hn, hcs] at ho
    rw [hes] at hen hel
    rw [hn] at hn60 hel
    rw [hk] at hle ⊢
    have HL := Lib.hid (hw.keep hch)
    have HEL := Lib.hid hel
    have hsz := hch.size
    clear hn hk hcs hes hel
    obtain ⟨oa, oc, rfl, _⟩ := ho.view
    obtain ⟨ea, ec, rfl, _⟩ := hen.view
    obtain ⟨t, ht⟩ : ∃ t, t = s.drop k := ⟨_, rfl⟩
    have htl : t.length ≤ s.length := by rw [ht, List.length_drop]; omega
    have HT := Lib.hid ht
    have hsl : ∀ W, (Instr.slice 9 (.string ⟨s.toArray⟩) (some (.int .i64 (k : Int))) none none).run Tryd.prog W = .ok (.string ⟨t.toArray⟩) W := fun W => by
      have hsz : (⟨s.toArray⟩ : ByteArray).size = s.length := by simp [ByteArray.size]
      rw [run_slice_string_from_if _ _ _ _ _ Tryd.underlying9, if_pos ⟨by omega, by rw [hsz]; omega⟩, ByteArray.extract_mk, ht, hsz]
      have : ((s.drop (k : Int).toNat).take (s.length - (k : Int).toNat)) = s.drop k := by
        rw [List.take_of_length_le (by rw [List.length_drop]; exact Nat.le_refl _)]
        simp
      rw [this]
    have q1 := Lib.hid (fun W hW => cut_any 10 t W (by omega) hW)
    have hpl := pre_le 10 t
    obtain ⟨p, hp⟩ : ∃ p, p = preB 10 t := ⟨_, rfl⟩
    have HP := Lib.hid hp
    unfold cutV at q1
    rw [← hp] at hpl
    rw [← hp] at q1
    have q2 := Lib.hid (fun W hW => readRecord_any n p W (by omega) (by omega) hW)
    obtain ⟨db, hdb⟩ : ∃ db, readB n p = db := ⟨_, rfl⟩
    obtain ⟨hb, hhb⟩ : ∃ hb, hasL 10 t = hb := ⟨_, rfl⟩
    obtain ⟨u, hu⟩ : ∃ u, u = postB 10 t := ⟨_, rfl⟩
    rw [hdb] at q2
    rw [← hu, hhb] at q1
    unfold rv at q2
    have HD := Lib.hid ((readB_eq n p).symm.trans hdb)
    have HB := Lib.hid hhb
    clear ht hp hdb hhb hu hw
    cases hb with
    | false =>
      have HE := Lib.hid (HO.out.notin' (by rw [HK.out, ← HT.out]; exact HB.out))
      go_wp2_with (go_at_call 66; refine (q1.out _ HL.out).mono ?_; rintro e w1 ⟨rfl, hk1⟩)
      go_ret2
      exact read_end (v := .slice oa n oc) (v2 := .slice ea es.length ec) HE.out HN.out HC.out HES.out (ho.keep hk1) (hen.keep hk1) hdis (hch.trans hk1)
    | true =>
      cases db with
      | false =>
        have HE : Hid (openB 60 0 s = D) := Lib.hid (HO.out.none_ (by
          rw [HK.out, HN.out, ← HT.out, ← HP.out]
          have := HD.out
          cases hd : decB n p with
          | none => rfl
          | some x => rw [hd] at this; cases this))
        go_wp2_with (first | (go_at_call 66; refine (q1.out _ HL.out).mono ?_; rintro e w1 ⟨rfl, hk1⟩) | (go_at_call 67; refine (q2.out _ (HL.out.keep hk1)).mono ?_; rintro e w2 ⟨c, r, rfl, hdc, hk2⟩; obtain ⟨c0, c1, fr⟩ := Box2.new w2 (.string ByteArray.empty) (.string ByteArray.empty) 43; clear hdc))
        go_ret2
        exact read_end (v := .slice oa n oc) (v2 := .slice ea es.length ec) HE.out HN.out HC.out HES.out ((ho.keep (hk1.trans hk2)).alloc _) ((hen.keep (hk1.trans hk2)).alloc _) hdis ((hch.trans (hk1.trans hk2)).alloc _)
      | true =>
        go_wp2_with (first | (go_at_call 66; refine (q1.out _ HL.out).mono ?_; rintro e w1 ⟨rfl, hk1⟩) | (go_at_call 67; refine (q2.out _ (HL.out.keep hk1)).mono ?_; rintro e w2 ⟨c, r, rfl, hdc, hk2⟩; obtain ⟨c0, c1, fr⟩ := Box2.new w2 (.string ByteArray.empty) (.string ByteArray.empty) 43; have HD2 := Lib.hid (hdc trivial); clear hdc; have hs2 := hk1.size; have hs3 := hk2.size) | (at_builtin; refine wappS1 elRec (by omega) rfl (.tmp 41) (.tmp 43) rfl ((ho.keep (hk1.trans hk2)).alloc (.cells #[.string ⟨c.toArray⟩, .string ⟨r.toArray⟩] 43)) rfl (by simp [Value.oneCell']) rfl (by rw [World.size_alloc]; rfl) (by omega) (by simp; omega) ?_))
        intro v1 w3 o1 k3 f3
        obtain ⟨a1, q1', rfl, _⟩ := o1.view
        have kk := ((hk1.trans hk2).alloc (.cells #[.string ⟨c.toArray⟩, .string ⟨r.toArray⟩] 43))
        have hs4 := kk.size
        have hs5 := k3.size
        have hen3 := (hen.keep kk).step k3 (fun q hq hq' => hdis q hq' hq)
        have hch1 := (hch.trans kk).step k3 (fun q hq hl => by have := (ho.lt q hq).1; omega)
        have hdis1 : ∀ q, own (.slice a1 (n + 1) q1') q → ¬ own (.slice ea es.length ec) q := fun q hq hq' => by
          rcases f3 q hq with h | h
          · exact hdis q h hq'
          · have := (hen.lt q hq').2
            omega
        clear c0 c1 fr
        have HPK : Hid (((k : Int) + ((p.length : Int) + 1)) = ((k + (p.length + 1) : Nat) : Int)) := Lib.hid (by push_cast; rfl)
        go_wp2_with (at_builtin; refine wapp1 rfl (.tmp 45) (.tmp 47) rfl hen3 rfl rfl (by have := HEL.out; omega) (by omega) ?_)
        intro v2 w4 o2 k4 f4
        obtain ⟨a2, q2', rfl, _⟩ := o2.view
        have ho4 := o1.step k4 (fun q hq hq' => hdis1 q hq hq')
        have hch2 := hch1.step k4 (fun q hq hl => by have := (hen.lt q hq).1; omega)
        have hdis2 : ∀ q, own (.slice a1 (n + 1) q1') q → ¬ own (.slice a2 (es ++ [((k : Int) + ((p.length : Int) + 1))]).length q2') q := fun q hq hq' => by
          rcases f4 q hq' with h | h
          · exact hdis1 q hq h
          · have := (o1.lt q hq).2
            omega
        clear q1 q2
        go_wp2_with fail
        have HT2 := HT.out
        have hnx := HO.out.next (c := c) (r := r) (by rw [HK.out, ← HT2]; simpa [hasL] using HB.out) (by rw [HK.out, HN.out, ← HT2, ← HP.out]; exact HD2.out)
        obtain ⟨R', hnx⟩ := hnx
        rw [HK.out, ← HT2, ← HP.out] at hnx
        refine ⟨⟨_, R', Lib.hid hnx, ?_, ?_, ?_, hdis2, hch2⟩, ?_⟩
        · rw [lenB_snoc, HK.out]
          go_num
        · rw [List.length_append, HN.out, recC_snoc, HC.out]
          exact ho4
        · rw [endsI_snoc, HES.out, HK.out, ← HPK.out]
          exact o2
        · have hlt := pre_lt 10 t (by simpa [hasL] using HB.out)
          rw [← HP.out, HT2, List.length_drop] at hlt
          simp [intOf]; omega
end Go.Proofs.YtmnohickmidfkaaDoor
