import Derived.Test.YtdgcohoneijleaaGreatDoorPkX27
namespace Go.Proofs.YtdgcohoneijleaaGreatDoor
open Go.RowKit
theorem parT_sp {s : List UInt8} {u : To} (h : parT s = some u) : numB ((splitC 59 s).getD 0 []) = true ∧ valS ((splitC 59 s).getD 0 []) = u.items ∧ 2 ≤ (splitC 59 s).length ∧ (splitC 59 s).length ≤ 6 ∧ (splitC 59 s).getD 1 [] ≠ [] ∧
  parR u.items (((splitC 59 s).getD 1 []).drop 1) = some u.reqs ∧ (∀ x ∈ (splitC 59 s).drop 2, x ≠ [] ∧ entB (x.drop 1) u.reqs.length = true) ∧ ((splitC 59 s).drop 2).map (fun x => entP (x.drop 1) u.reqs) = u.ps := by
 obtain ⟨ht, rfl⟩ := parT_some.1 h
 obtain ⟨h1, h2, h3, h4, h5⟩ := tour_req ht
 rw [tou_split ht]
 have n1 := numB_itoa (v := u.items) (by omega)
 refine ⟨n1.1, n1.2, by simp, by simp; omega, by simp, ?_, ?_, ?_⟩
 ·exact parR_some.2 ⟨h4, rfl⟩
 ·intro x hx
  obtain ⟨p, hp, rfl⟩ := List.mem_map.1 hx
  exact ⟨by simp, (ent_plT (tour_ps ht hp) h2).2⟩
 ·show (u.ps.map (fun x => 32 :: plT x)).map (fun x => entP (x.drop 1) u.reqs) = u.ps
  rw [List.map_map]
  calc u.ps.map _ = u.ps.map id := List.map_congr_left (fun p hp => by
     have e := (ent_plT (tour_ps ht hp) h2).1
     have e2 := want_self (tour_ps ht hp)
     show entP (plT p) u.reqs = p
     unfold entP
     rw [e]
     exact e2)
   _ = u.ps := by simp
theorem parT_end {s : List UInt8} {n : Int} {rq : List Int} (hn : valS ((splitC 59 s).getD 0 []) = n) (hr : parR n (((splitC 59 s).getD 1 []).drop 1) = some rq) :
  (tourB ⟨n, ((splitC 59 s).drop 2).map (fun x => entP (x.drop 1) rq), rq⟩ = true ∧ touT ⟨n, ((splitC 59 s).drop 2).map (fun x => entP (x.drop 1) rq), rq⟩ = s → parT s = some ⟨n, ((splitC 59 s).drop 2).map (fun x => entP (x.drop 1) rq), rq⟩) ∧
  (¬ (tourB ⟨n, ((splitC 59 s).drop 2).map (fun x => entP (x.drop 1) rq), rq⟩ = true ∧ touT ⟨n, ((splitC 59 s).drop 2).map (fun x => entP (x.drop 1) rq), rq⟩ = s) → parT s = none) := by
 refine ⟨fun h => parT_some.2 h, fun h => ?_⟩
 cases e : parT s with
 | none => rfl
 | some u =>
  obtain ⟨_, a2, _, _, _, a6, _, a8⟩ := parT_sp e
  have e1 : n = u.items := hn.symm.trans a2
  subst e1
  rw [hr] at a6
  have e2 : rq = u.reqs := by injection a6
  subst e2
  rw [a8] at h
  exact absurd (parT_some.1 e) h
def rawP (x : List UInt8) : Pl := ⟨decN (postB 32 x), ⟨polOf (preB 47 (preB 32 x)), decN (postB 47 (preB 32 x)), [], [], 0⟩, 0⟩
def rawB (x : List UInt8) : Bool := decide (1 ≤ polOf (preB 47 (preB 32 x))) && decM (postB 47 (preB 32 x)) && decM (postB 32 x)
def okP (x : List UInt8) (n : Nat) : Bool := rawB x && inB (rawP x).frm 0 n && inB (rawP x).ca.size 1 6
theorem decN_itoa {v : Int} (h : -9223372036854775808 ≤ v ∧ v ≤ 9223372036854775807) : decM (Lib.itoa v) = true ∧ decN (Lib.itoa v) = v := by
 have h1 : decM (Lib.itoa v) = true := by unfold decM; rw [isNum_itoa, valS_itoa, inB_iff.2 h]; rfl
 exact ⟨h1, by unfold decN; rw [h1, valS_itoa]; rfl⟩
theorem raw_plT {x : Pl} {l : List Int} (h : playB x l = true) (hl : l.length ≤ 60) : okP (plT x) l.length = true ∧ wantP (rawP (plT x)) l = x := by
 obtain ⟨h1, h2, h3⟩ := play_parts h
 have c := plT_cut3 h
 have c4 := plT_cut4 h
 have d1 := decN_itoa (v := x.ca.size) (by omega)
 have d2 := decN_itoa (v := x.frm) (by omega)
 have hraw : rawP (plT x) = ⟨x.frm, ⟨x.ca.pol, x.ca.size, [], [], 0⟩, 0⟩ := by
  unfold rawP
  rw [c.1, c.2, c4.1, c4.2, polOf_T h2, d1.2, d2.2]
 refine ⟨?_, ?_⟩
 ·unfold okP rawB
  rw [hraw, c.1, c.2, c4.1, c4.2, polOf_T h2, d1.1, d2.1, inB_iff.2 h1, inB_iff.2 h3, decide_eq_true h2.1]
  rfl
 ·rw [hraw]
  exact want_self h
theorem parT_im {s : List UInt8} {u : To} (h : parT s = some u) : 2 ≤ (Lib.split s [59, 32]).length ∧ decN ((Lib.split s [59, 32]).getD 0 []) = u.items ∧ parR u.items ((Lib.split s [59, 32]).getD 1 []) = some u.reqs ∧
  (∀ x ∈ (Lib.split s [59, 32]).drop 2, okP x u.reqs.length = true) ∧ againP (((Lib.split s [59, 32]).drop 2).map rawP) u.reqs = u.ps := by
 obtain ⟨ht, rfl⟩ := parT_some.1 h
 obtain ⟨h1, h2, h3, h4, h5⟩ := tour_req ht
 rw [tou_split2 ht]
 have d1 := decN_itoa (v := u.items) (by omega)
 refine ⟨by simp [touW], d1.2, parR_some.2 ⟨h4, rfl⟩, ?_, ?_⟩
 ·intro x hx
  obtain ⟨p, hp, rfl⟩ := List.mem_map.1 (show x ∈ u.ps.map plT from hx)
  exact (raw_plT (tour_ps ht hp) h2).1
 ·show againP ((u.ps.map plT).map rawP) u.reqs = u.ps
  unfold againP
  rw [List.map_map, List.map_map]
  calc u.ps.map _ = u.ps.map id := List.map_congr_left (fun p hp => (raw_plT (tour_ps ht hp) h2).2)
   _ = u.ps := by simp
theorem parT_imend {s : List UInt8} {n : Int} {rq : List Int} (hn : decN ((Lib.split s [59, 32]).getD 0 []) = n) (hr : parR n ((Lib.split s [59, 32]).getD 1 []) = some rq) :
  (tourB ⟨n, againP (((Lib.split s [59, 32]).drop 2).map rawP) rq, rq⟩ = true ∧ touT ⟨n, againP (((Lib.split s [59, 32]).drop 2).map rawP) rq, rq⟩ = s → parT s = some ⟨n, againP (((Lib.split s [59, 32]).drop 2).map rawP) rq, rq⟩) ∧
  (¬ (tourB ⟨n, againP (((Lib.split s [59, 32]).drop 2).map rawP) rq, rq⟩ = true ∧ touT ⟨n, againP (((Lib.split s [59, 32]).drop 2).map rawP) rq, rq⟩ = s) → parT s = none) := by
 refine ⟨fun h => parT_some.2 h, fun h => ?_⟩
 cases e : parT s with
 | none => rfl
 | some u =>
  obtain ⟨_, a2, a3, _, a5⟩ := parT_im e
  have e1 : n = u.items := hn.symm.trans a2
  subst e1
  rw [hr] at a3
  have e2 : rq = u.reqs := by injection a3
  subst e2
  rw [a5] at h
  exact absurd (parT_some.1 e) h
theorem raw_sv {x : List UInt8} {n : Nat} (h : okP x n = true) : (0 ≤ (rawP x).frm ∧ (rawP x).frm ≤ n) ∧ Ok (newC (rawP x).ca.pol (rawP x).ca.size) := by
 unfold okP at h
 rw [Bool.and_eq_true, Bool.and_eq_true, inB_iff, inB_iff] at h
 obtain ⟨⟨h1, h2⟩, h3⟩ := h
 refine ⟨h2, ok_new ?_ h3⟩
 unfold rawB at h1
 rw [Bool.and_eq_true, Bool.and_eq_true, decide_eq_true_eq] at h1
 have h4 := h1.1.1
 rcases polOf_in (preB 47 (preB 32 x)) with h5 | h5
 ·omega
 ·exact ⟨h5.1, h5.2.1⟩
end Go.Proofs.YtdgcohoneijleaaGreatDoor
namespace Go.Proofs.YtdgcohoneijleaaGreatDoor
open Go.RowKit
theorem splitK_len (sep : List UInt8) : ∀ (k : Nat) (s x : List UInt8), x ∈ Lib.splitK sep 0 k s → x.length ≤ s.length
 | 0, s, x, h => by rw [Lib.splitK, List.mem_singleton] at h; rw [h]; exact Nat.le_refl _
 | k + 1, s, x, h => by
  rw [Lib.splitK] at h
  split at h
  ·rw [List.mem_singleton] at h; rw [h]; exact Nat.le_refl _
  ·rcases List.mem_cons.1 h with h | h
   ·rw [h, List.length_take]; omega
   ·have := splitK_len sep k _ x h
    rw [List.length_drop] at this; omega
theorem split2_any (s : List UInt8) (w : World) (hs : s.length ≤ 1048576) (hw : Lay w) :
  Calls Tryz.prog 41 #[.string ⟨s.toArray⟩, .string ⟨#[59, 32]⟩] w fun e w' => ∃ m, e = .returned (.slice (some ⟨w.heap.size, 0, none⟩) m m) ∧ WordsAt w' w.heap.size m (Lib.split s [59, 32]) ∧ Chg No w w' ∧ 1 ≤ m ∧ m ≤ 1048577 := by
 obtain ⟨mx, hmx⟩ := hw.max
 have hsz : (⟨s.toArray⟩ : ByteArray).size = s.length := by simp [ByteArray.size]
 refine (Tryz.strings_Split ⟨s.toArray⟩ ⟨#[59, 32]⟩ mx w (by rw [hsz]; omega) hmx (by decide)).mono ?_
 rintro e w' ⟨rfl, rfl⟩
 have hd := Lib.splitB_data ⟨#[59, 32]⟩ 0 (Lib.countB ⟨s.toArray⟩ ⟨#[59, 32]⟩) ⟨s.toArray⟩
 have hl := Lib.splitB_all ⟨#[59, 32]⟩ (by decide) 0 _ ⟨s.toArray⟩ rfl
 have hle := Lib.countB_le ⟨#[59, 32]⟩ (by decide) _ ⟨s.toArray⟩ (Nat.le_refl _)
 have hL : (Lib.splitB ⟨#[59, 32]⟩ 0 (Lib.countB ⟨s.toArray⟩ ⟨#[59, 32]⟩) ⟨s.toArray⟩).map (·.data.toList) = Lib.split s [59, 32] := hd
 obtain ⟨B, hB⟩ : ∃ B, Lib.splitB ⟨#[59, 32]⟩ 0 (Lib.countB ⟨s.toArray⟩ ⟨#[59, 32]⟩) ⟨s.toArray⟩ = B := ⟨_, rfl⟩
 rw [hB] at hL hl
 rw [hB]
 rw [hsz] at hle
 refine ⟨_, rfl, ⟨by rw [← hL, List.length_map, hl], by simp, fun i hi => ?_⟩, (Chg.refl No w).alloc _, by omega, by omega⟩
 rw [World.cell?_alloc_new, ← hL]
 have hi' : i < B.length := by omega
 show (B.map Value.string).toArray[i]? = _
 rw [List.getElem?_toArray, List.getElem?_map, List.getElem?_eq_getElem hi', List.getD_eq_getElem?_getD, List.getElem?_map, List.getElem?_eq_getElem hi']
 rfl
set_option maxRecDepth 100000 in
set_option maxHeartbeats 4000000 in
theorem readPlayer_any (s : List UInt8) (w : World) (hs : s.length ≤ 1048576) (hw : LayE w) :
  Calls Tryz.prog 44 #[.string ⟨s.toArray⟩] w (Ret2 fun v0 v1 w' => v1 = .bool (rawB s) ∧ v0 = .agg #[.int .i64 (rawP s).frm, .int .i64 (rawP s).ca.pol, .int .i64 (rawP s).ca.size, .slice none 0 0, .slice none 0 0, .int .i64 0, .int .i64 0] ∧ Chg No w w') := by
 have k0 := (Chg.refl No w).alloc (.cells #[.int .i64 0, .int .i64 0, .int .i64 0, .slice none 0 0, .slice none 0 0, .int .i64 0, .int .i64 0] 68)
 have b7 := Box7.new w (.int .i64 0) (.int .i64 0) (.int .i64 0) (.slice none 0 0) (.slice none 0 0) (.int .i64 0) (.int .i64 0) 68
 obtain ⟨A, hA⟩ : ∃ A, preB 32 s = A := ⟨_, rfl⟩
 obtain ⟨B, hB⟩ : ∃ B, postB 32 s = B := ⟨_, rfl⟩
 obtain ⟨C, hC⟩ : ∃ C, preB 47 A = C := ⟨_, rfl⟩
 obtain ⟨D, hD⟩ : ∃ D, postB 47 A = D := ⟨_, rfl⟩
 have hAl : A.length ≤ s.length := by rw [← hA]; exact pre_le _ _
 have hBl : B.length ≤ s.length := by
  rw [← hB]; unfold postB
  rw [List.length_drop]
  have := (List.dropWhile_sublist (fun x : UInt8 => x != 32) (l := s)).length_le
  omega
 have hDl : D.length ≤ A.length := by
  rw [← hD]; unfold postB
  rw [List.length_drop]
  have := (List.dropWhile_sublist (fun x : UInt8 => x != 47) (l := A)).length_le
  omega
 have HR : Hid (rawB s = (decide (1 ≤ polOf C) && decM D && decM B) ∧ rawP s = ⟨decN B, ⟨polOf C, decN D, [], [], 0⟩, 0⟩) := Lib.hid (by unfold rawB rawP; rw [hA, hB, hC, hD]; exact ⟨rfl, rfl⟩)
 have q1 := Lib.hid (fun W (h : LayE W) => cut_any 32 s W (by omega) h.lay)
 have q2 := Lib.hid (fun W (h : LayE W) => cut_any 47 A W (by omega) h.lay)
 have q3 := Lib.hid (fun W (h : LayE W) => PolicyOf_any C W h.lay)
 have q4 := Lib.hid (fun W (h : LayE W) => readDec_any D W (by omega) h)
 have q5 := Lib.hid (fun W (h : LayE W) => readDec_any B W (by omega) h)
 unfold cutV at q1 q2
 rw [hA, hB] at q1
 rw [hC, hD] at q2
 clear hA hB hC hD hAl hBl hDl
 rw [HR.out.1, HR.out.2]
 clear HR
 obtain ⟨zp, hzp⟩ : ∃ zp, polOf C = zp := ⟨_, rfl⟩
 obtain ⟨zs, hzs⟩ : ∃ zs, decN D = zs := ⟨_, rfl⟩
 obtain ⟨zf, hzf⟩ : ∃ zf, decN B = zf := ⟨_, rfl⟩
 obtain ⟨t1, ht1⟩ : ∃ t1, decM D = t1 := ⟨_, rfl⟩
 obtain ⟨t2, ht2⟩ : ∃ t2, decM B = t2 := ⟨_, rfl⟩
 rw [hzp] at q3
 obtain ⟨t0, ht0⟩ : ∃ t0, decide (1 ≤ zp) = t0 := ⟨_, rfl⟩
 rw [ht0] at q3
 rw [hzs, ht1] at q4
 rw [hzf, ht2] at q5
 rw [hzp, hzs, hzf, ht1, ht2, ht0]
 obtain ⟨HA1, hHA1⟩ : ∃ x, hasL 32 s = x := ⟨_, rfl⟩
 obtain ⟨HA2, hHA2⟩ : ∃ x, hasL 47 A = x := ⟨_, rfl⟩
 rw [hHA1] at q1
 rw [hHA2] at q2
 clear hzp hzs hzf ht0 ht1 ht2 hHA1 hHA2
 have HL := Lib.hid (fun W (h : Chg No w W) => hw.keep h)
 clear hw
 go_enter Tryz.func44, Tryz.ntmps44
 go_wp2_with fail
 refine (q1.out _ (HL.out _ k0)).mono ?_
 rintro e w1 ⟨rfl, k1⟩
 have kk := k0.trans k1
 have bR := b7.keep k1
 go_wp2_with fail
 refine (q2.out _ (HL.out _ kk)).mono ?_
 rintro e w2 ⟨rfl, k2⟩
 have kk := kk.trans k2
 have bR := bR.keep k2
 go_wp2_with fail
 have k3 := (Chg.refl No w2).alloc (.cells #[.int .i64 0, .int .i64 0, .int .i64 0, .slice none 0 0, .slice none 0 0, .int .i64 0, .int .i64 0] 68)
 have bT := Box7.new w2 (.int .i64 0) (.int .i64 0) (.int .i64 0) (.slice none 0 0) (.slice none 0 0) (.int .i64 0) (.int .i64 0) 68
 have hRT : w.heap.size < w2.heap.size := bR.lt
 obtain ⟨T, hT⟩ : ∃ T, w2.heap.size = T := ⟨_, rfl⟩
 rw [hT] at bT hRT ⊢
 have kk := kk.trans k3
 have bR := bR.keep k3
 refine (q3.out _ (HL.out _ kk)).mono ?_
 rintro e w3 ⟨rfl, k4⟩
 have kk := kk.trans k4
 have bR := bR.keep k4
 have bT := bT.keep k4
 clear hT k3 k4
 go_wp2_with fail
 refine (q4.out _ (HL.out _ kk)).mono ?_
 rintro e w4 ⟨rfl, k5⟩
 have kk := kk.trans k5
 have bR := bR.keep k5
 have bT := bT.keep k5
 go_wp2_with fail
 refine (q5.out _ (HL.out _ kk)).mono ?_
 rintro e w5 ⟨rfl, k6⟩
 have kk := kk.trans k6
 have bR := bR.keep k6
 have bT := bT.keep k6
 clear k5 k6 HL q1 q2 q3 q4 q5
 obtain ⟨u0, u1, u2, u3, u4, u5, u6, uf⟩ := id bT
 have uf0 := uf 0
 have uf1 := uf 1
 have uf2 := uf 2
 clear uf
 have cT : Chg (fun q => q = T) w5 (((w5.setCell ⟨T, 0, none⟩ (.int .i64 zf)).setCell ⟨T, 1, none⟩ (.int .i64 zp)).setCell ⟨T, 2, none⟩ (.int .i64 zs)) :=
  (((Chg.refl (fun q => q = T) w5).setCell (p := ⟨T, 0, none⟩) (fun _ => rfl) _).setCell (p := ⟨T, 1, none⟩) (fun _ => rfl) _).setCell (p := ⟨T, 2, none⟩) (fun _ => rfl) _
 have bT2 := ((bT.set0 (.int .i64 zf)).set1 (.int .i64 zp)).set2 (.int .i64 zs)
 have hTw : w.heap.size ≤ T := by omega
 have kk := kk.step cT (fun q hq hl => by omega)
 have bR := bR.step cT (fun e => by omega)
 clear cT
 obtain ⟨WT, hWT⟩ : ∃ WT, (((w5.setCell ⟨T, 0, none⟩ (.int .i64 zf)).setCell ⟨T, 1, none⟩ (.int .i64 zp)).setCell ⟨T, 2, none⟩ (.int .i64 zs)) = WT := ⟨_, rfl⟩
 rw [hWT] at bT2 kk bR
 obtain ⟨v0, v1, v2, v3, v4, v5, v6, _⟩ := id bT2
 obtain ⟨s0, s1, s2, s3, s4, s5, s6, sf⟩ := id bR
 have sf0 := sf 0
 have sf1 := sf 1
 have sf2 := sf 2
 have sf3 := sf 3
 have sf4 := sf 4
 have sf5 := sf 5
 have sf6 := sf 6
 clear sf
 have bz2 := bR.put7 (.int .i64 zf) (.int .i64 zp) (.int .i64 zs) (.slice none 0 0) (.slice none 0 0) (.int .i64 0) (.int .i64 0)
 have kz2 := kk.put7 (b := w.heap.size) (fun h => absurd h (Nat.lt_irrefl _)) (.int .i64 zf) (.int .i64 zp) (.int .i64 zs) (.slice none 0 0) (.slice none 0 0) (.int .i64 0) (.int .i64 0)
 obtain ⟨z0, z1, z2, z3, z4, z5, z6, _⟩ := id bz2
 clear bT bT2 bR bz2
 clear kk
 cases t0 <;> cases t1 <;> cases t2
 all_goals
  go_wp2_with fail
  refine bodyPost_ret (v := .tuple #[.agg #[.int .i64 zf, .int .i64 zp, .int .i64 zs, .slice none 0 0, .slice none 0 0, .int .i64 0, .int .i64 0], _]) (by simp [results, Tryz.results44, go_sem, z0, z1, z2, z3, z4, z5, z6]; rfl) rfl ?_
  exact ⟨_, _, rfl, rfl, rfl, kz2⟩
end Go.Proofs.YtdgcohoneijleaaGreatDoor
