import Derived.Test.YtmnohickmidfkaaDoorYm
/- RecoverLog: both sides and the law -/
namespace Go.Proofs.YtmnohickmidfkaaDoor
open Go.RowKit

theorem take_run {l : List UInt8} {k : Nat} {t : List UInt8} (ht : t = l.take k) (hk : k ≤ l.length) (_hl : l.length ≤ 9223372036854775807) (w : World) :
    (Instr.slice 9 (.string ⟨l.toArray⟩) none (some (.int .i64 (k : Int))) none).run Tryd.prog w = .ok (.string ⟨t.toArray⟩) w := by
  have hsz : (⟨l.toArray⟩ : ByteArray).size = l.length := by simp [ByteArray.size]
  rw [run_slice_string_to_if _ _ _ _ _ Tryd.underlying9, if_pos ⟨by omega, by rw [hsz]; omega⟩, ByteArray.extract_mk, ht]
  simp
/-- what RecoverLog returns -/
def recV (s : List UInt8) : Value :=
  if s.length ≤ 30000 then .tuple #[.agg #[.string ⟨(s.take (lenB (openB 60 0 s))).toArray⟩, .string ⟨#[]⟩, .int .i64 ((openB 60 0 s).length : Int)], .int .i64 (lenB (openB 60 0 s)), .bool true]
  else .tuple #[.agg #[.string ⟨#[]⟩, .string ⟨#[]⟩, .int .i64 0], .int .i64 0, .bool false]
set_option maxRecDepth 100000 in
set_option maxHeartbeats 1000000 in
theorem specRecover_any (s : List UInt8) (w : World) (hs : s.length ≤ 1048576) :
    Calls Tryd.prog 11 #[.string ⟨s.toArray⟩] w fun e w' => e = .returned (recV s) ∧ Chg No w w' := by
  have k0 := (Chg.refl No w).alloc (.cells #[.string ByteArray.empty, .string ByteArray.empty, .int .i64 0] 23)
  have bx := BoxL.new w (.string ByteArray.empty) (.string ByteArray.empty) (.int .i64 0) 23
  have HBOX : Hid (∀ W, Chg No (w.alloc (.cells #[.string ByteArray.empty, .string ByteArray.empty, .int .i64 0] 23)) W → BoxL W w.heap.size (.string ByteArray.empty) (.string ByteArray.empty) (.int .i64 0)) := Lib.hid (fun W hW => bx.keep hW)
  by_cases h : s.length ≤ 30000
  · have HR : Hid (recV s = .tuple #[.agg #[.string ⟨(s.take (lenB (openB 60 0 s))).toArray⟩, .string ⟨#[]⟩, .int .i64 ((openB 60 0 s).length : Int)], .int .i64 (lenB (openB 60 0 s)), .bool true]) := Lib.hid (by rw [recV, if_pos h])
    have q1 := Lib.hid (fun W => l12Open_any s W hs)
    have hb := lenB_le 60 0 s
    have hb2 := openB_len 60 0 s
    obtain ⟨k, hk⟩ : ∃ k, lenB (openB 60 0 s) = k := ⟨_, rfl⟩
    obtain ⟨m, hm⟩ : ∃ m, (openB 60 0 s).length = m := ⟨_, rfl⟩
    obtain ⟨t, ht⟩ : ∃ t, t = s.take k := ⟨_, rfl⟩
    rw [hk] at hb
    rw [hm] at hb2
    rw [hk, hm] at q1
    rw [hk, hm, ← ht] at HR
    have htk := take_run ht hb (by omega)
    rw [HR.out]
    clear hk hm ht
    go_enter Tryd.func11, Tryd.ntmps11
    go_wp2_with (go_at_call 44; refine (q1.out _).mono ?_; rintro e w1 ⟨v1, rfl, o1, hk1⟩; obtain ⟨a1', q1', rfl, _⟩ := o1.view; obtain ⟨c0, c1, c2, fr⟩ := HBOX.out w1 hk1)
    obtain ⟨z0, z1, z2, _⟩ := (HBOX.out w1 hk1).put (.string ⟨t.toArray⟩) (.string ⟨#[]⟩) (.int .i64 (m : Int))
    refine bodyPost_ret (v := .tuple #[.agg #[.string ⟨t.toArray⟩, .string ⟨#[]⟩, .int .i64 (m : Int)], .int .i64 (k : Int), .bool true]) (by simp [results, Tryd.results11, go_sem, z0, z1, z2]) rfl ?_
    exact ⟨rfl, (k0.trans hk1).put3 (fun h => absurd h (by omega)) _ _ _⟩
  · have HR : Hid (recV s = .tuple #[.agg #[.string ⟨#[]⟩, .string ⟨#[]⟩, .int .i64 0], .int .i64 0, .bool false]) := Lib.hid (by rw [recV, if_neg h])
    rw [HR.out]
    obtain ⟨c0, c1, c2, fr⟩ := bx
    go_enter Tryd.func11, Tryd.ntmps11
    go_wp2_with fail
    refine bodyPost_ret (v := .tuple #[.agg #[.string ⟨#[]⟩, .string ⟨#[]⟩, .int .i64 0], .int .i64 0, .bool false]) (by simp [results, Tryd.results11, go_sem]) rfl ?_
    exact ⟨rfl, k0⟩

theorem last_ends' (D : List (List UInt8 × List UInt8 × Nat)) : (D.length = 0 → lenB D = 0) ∧ (0 < D.length → (endsI D).getD (D.length - 1) 0 = (lenB D : Int)) := by
  rcases List.eq_nil_or_concat D with rfl | ⟨D', x, rfl⟩
  · exact ⟨fun _ => rfl, fun h => absurd h (by simp)⟩
  · rw [List.concat_eq_append, endsI_snoc, lenB_snoc, List.length_append, List.length_singleton]
    refine ⟨fun h => absurd h (by omega), fun _ => ?_⟩
    rw [Nat.add_sub_cancel, ← endsI_len D', List.getD_eq_getElem?_getD, List.getElem?_append_right (Nat.le_refl _), Nat.sub_self]
    rfl
set_option maxRecDepth 100000 in
set_option maxHeartbeats 1000000 in
theorem implRecover_any (s : List UInt8) (w : World) (hs : s.length ≤ 1048576) (hw : Lay w) :
    Calls Tryd.prog 12 #[.string ⟨s.toArray⟩] w fun e w' => e = .returned (recV s) ∧ Chg No w w' := by
  have k0 := (Chg.refl No w).alloc (.cells #[.string ByteArray.empty, .string ByteArray.empty, .int .i64 0] 23)
  have bx := BoxL.new w (.string ByteArray.empty) (.string ByteArray.empty) (.int .i64 0) 23
  have HBOX : Hid (∀ W, Chg No (w.alloc (.cells #[.string ByteArray.empty, .string ByteArray.empty, .int .i64 0] 23)) W → BoxL W w.heap.size (.string ByteArray.empty) (.string ByteArray.empty) (.int .i64 0)) := Lib.hid (fun W hW => bx.keep hW)
  have HL0 := Lib.hid (hw.keep k0)
  by_cases h : s.length ≤ 30000
  · have HR : Hid (recV s = .tuple #[.agg #[.string ⟨(s.take (lenB (openB 60 0 s))).toArray⟩, .string ⟨#[]⟩, .int .i64 ((openB 60 0 s).length : Int)], .int .i64 (lenB (openB 60 0 s)), .bool true]) := Lib.hid (by rw [recV, if_pos h])
    have q1 := Lib.hid (fun W hW => readRecords_any s W hs hW)
    have hb := lenB_le 60 0 s
    have hb2 := openB_len 60 0 s
    obtain ⟨hla0, hla1⟩ := last_ends' (openB 60 0 s)
    have hel := endsI_len (openB 60 0 s)
    obtain ⟨es, hes⟩ : ∃ es, endsI (openB 60 0 s) = es := ⟨_, rfl⟩
    obtain ⟨k, hk⟩ : ∃ k, lenB (openB 60 0 s) = k := ⟨_, rfl⟩
    obtain ⟨m, hm⟩ : ∃ m, (openB 60 0 s).length = m := ⟨_, rfl⟩
    obtain ⟨t, ht⟩ : ∃ t, t = s.take k := ⟨_, rfl⟩
    rw [hk] at hb
    rw [hm] at hb2
    rw [hes, hm] at q1 hel
    rw [hes, hm, hk] at hla1
    rw [hm, hk] at hla0
    rw [hk, hm, ← ht] at HR
    have htk := take_run ht hb (by omega)
    obtain ⟨K, hK⟩ : ∃ K : Int, K = (k : Int) := ⟨_, rfl⟩
    obtain ⟨M, hM⟩ : ∃ M : Int, M = (m : Int) := ⟨_, rfl⟩
    rw [← hK] at htk hla1 HR
    rw [← hM] at HR
    have HKE := Lib.hid hK
    have HME := Lib.hid hM
    clear hK hM
    have HEL := Lib.hid hel
    have HLA := Lib.hid hla1
    have HL2 := Lib.hid hla0
    rw [HR.out]
    clear hk hm ht hes hel hla0 hla1 hw
    by_cases hm0 : m = 0
    · have hk0 : k = 0 := HL2.out hm0
      obtain rfl : K = 0 := by rw [HKE.out, hk0]; rfl
      obtain rfl : M = 0 := by rw [HME.out, hm0]; rfl
      have hnil : es = [] := List.eq_nil_of_length_eq_zero (by rw [HEL.out, hm0])
      subst hnil
      have HKL : Hid (0 ≤ s.length) := Lib.hid (Nat.zero_le _)
      clear hk0 HLA HL2 HEL hb2
      rw [hm0] at q1
      clear hm0 hb HKE HME
      go_enter Tryd.func12, Tryd.ntmps12
      go_wp2_with (go_at_call 45; refine (q1.out _ HL0.out).mono ?_; rintro e w1 ⟨v1, v2, rfl, o1, o2, hdis, hk1⟩; obtain ⟨a1', q1', rfl, _⟩ := o1.view; obtain ⟨a2', q2', rfl, _⟩ := o2.view; obtain ⟨c0, c1, c2, fr⟩ := HBOX.out w1 hk1)
      obtain ⟨z0, z1, z2, _⟩ := (HBOX.out w1 hk1).put (.string ⟨t.toArray⟩) (.string ⟨#[]⟩) (.int .i64 0)
      refine bodyPost_ret (v := .tuple #[.agg #[.string ⟨t.toArray⟩, .string ⟨#[]⟩, .int .i64 0], .int .i64 0, .bool true]) (by simp [results, Tryd.results12, go_sem, z0, z1, z2]) rfl ?_
      exact ⟨rfl, (k0.trans hk1).put3 (fun h => absurd h (by omega)) _ _ _⟩
    · have hpos : 0 < m := by omega
      obtain rfl : M = (m : Int) := HME.out
      have hKb : 0 ≤ K ∧ K ≤ (s.length : Int) := by have := HKE.out; omega
      go_enter Tryd.func12, Tryd.ntmps12
      go_wp2_with (go_at_call 45; refine (q1.out _ HL0.out).mono ?_; rintro e w1 ⟨v1, v2, rfl, o1, o2, hdis, hk1⟩; obtain ⟨a1', q1', rfl, _⟩ := o1.view; obtain ⟨a2', q2', rfl, hq1, hq2, hq3⟩ := o2.view; have hel := HEL.out; obtain ⟨g, rfl, _, _, hg, _⟩ := hq3 (by omega); have hlast := hg (m - 1) (by omega); rw [HLA.out hpos] at hlast; rw [hel]; rw [hel] at hq1; clear hg hq3 hel o2 hdis; obtain ⟨c0, c1, c2, fr⟩ := HBOX.out w1 hk1)
      obtain ⟨z0, z1, z2, _⟩ := (HBOX.out w1 hk1).put (.string ⟨t.toArray⟩) (.string ⟨#[]⟩) (.int .i64 (m : Int))
      refine bodyPost_ret (v := .tuple #[.agg #[.string ⟨t.toArray⟩, .string ⟨#[]⟩, .int .i64 (m : Int)], .int .i64 K, .bool true]) (by simp [results, Tryd.results12, go_sem, z0, z1, z2]) rfl ?_
      exact ⟨rfl, (k0.trans hk1).put3 (fun h => absurd h (by omega)) _ _ _⟩
  · have HR : Hid (recV s = .tuple #[.agg #[.string ⟨#[]⟩, .string ⟨#[]⟩, .int .i64 0], .int .i64 0, .bool false]) := Lib.hid (by rw [recV, if_neg h])
    rw [HR.out]
    obtain ⟨c0, c1, c2, fr⟩ := bx
    go_enter Tryd.func12, Tryd.ntmps12
    go_wp2_with fail
    refine bodyPost_ret (v := .tuple #[.agg #[.string ⟨#[]⟩, .string ⟨#[]⟩, .int .i64 0], .int .i64 0, .bool false]) (by simp [results, Tryd.results12, go_sem]) rfl ?_
    exact ⟨rfl, k0⟩

theorem recV_shape (s : List UInt8) : ∃ (d p : List UInt8) (n k : Int) (b : Bool), recV s = .tuple #[lv d p n, .int .i64 k, .bool b] := by
  unfold recV
  split
  · exact ⟨_, [], _, _, _, rfl⟩
  · exact ⟨[], [], _, _, _, rfl⟩
set_option maxRecDepth 100000 in
set_option maxHeartbeats 1000000 in
theorem law_RecoverLog (s : List UInt8) (w : World) (hs : s.length ≤ 9223372036854775807) (hw : Lay w) :
    Calls Tryd.prog 3 #[.string ⟨s.toArray⟩] w fun e w' => e = .returned (.bool true) ∧ Chg No w w' := by
  by_cases h : s.length ≤ 1048576
  · have q1 := Lib.hid (fun W => specRecover_any s W h)
    have q2 := Lib.hid (fun W hW => implRecover_any s W h hW)
    obtain ⟨d, p, n, k, b, hr⟩ := recV_shape s
    have q3 := Lib.hid (fun W => eqLog_same d p n W)
    rw [hr] at q1 q2
    have HL := Lib.hid hw
    unfold lv at q1 q2 q3
    clear hr hw
    go_enter Tryd.func3, Tryd.ntmps3
    go_wp2_with (first | (go_at_call 11; refine (q1.out _).mono ?_; rintro e w1 ⟨rfl, hk1⟩; have bxA := Lib.hid (BoxL.new w1 (.string ⟨d.toArray⟩) (.string ⟨p.toArray⟩) (.int .i64 n) 23); obtain ⟨c0, c1, c2, fr⟩ := BoxL.new w1 (.string ByteArray.empty) (.string ByteArray.empty) (.int .i64 0) 23) | (go_at_call 12; refine (q2.out _ ((HL.out.keep hk1).keep ((Chg.refl No _).alloc _))).mono ?_; rintro e w2 ⟨rfl, hk2⟩; have bxB := (bxA.out.keep hk2).keep ((Chg.refl No _).alloc (.cells #[.string ⟨d.toArray⟩, .string ⟨p.toArray⟩, .int .i64 n] 23)); obtain ⟨d0, d1, d2, fr'⟩ := bxB; obtain ⟨c0, c1, c2, fr⟩ := BoxL.new w2 (.string ⟨d.toArray⟩) (.string ⟨p.toArray⟩) (.int .i64 n) 23) | (go_at_call 13; refine (q3.out _).mono ?_; rintro e w3 ⟨rfl, hk3⟩))
    all_goals go_ret
    all_goals exact ⟨rfl, ((hk1.alloc _).trans (hk2.alloc _)).trans hk3⟩
  · go_enter Tryd.func3, Tryd.ntmps3
    go_wp2_with fail
    go_ret
    exact ⟨rfl, Chg.refl No w⟩
end Go.Proofs.YtmnohickmidfkaaDoor
