import Derived.Test.YtdgcohoneijleaaGreatDoorPkX26
import Derived.Test.YtdgcohoneijleaaGreatDoorPkX13
set_option maxRecDepth 100000
namespace Go.Proofs.YtdgcohoneijleaaGreatDoor
open Go.RowKit
def okL (s : List UInt8) : Bool := (splitC 32 s).all decM
def NumW (L : List (List UInt8)) (k : Nat) : Prop := ∀ x ∈ L.take k, decM x = true
theorem NumW.succ {L : List (List UInt8)} {k : Nat} (h : NumW L k) (hk : k < L.length) (hx : decM (L.getD k []) = true) : NumW L (k + 1) := fun x hm => by
 rw [List.take_succ_eq_append_getElem hk, List.mem_append, List.mem_singleton] at hm
 rcases hm with hm | rfl
 ·exact h x hm
 ·rw [List.getD_eq_getElem?_getD, List.getElem?_eq_getElem hk] at hx
  exact hx
def lisV (s : List UInt8) : List Int := if okL s then wordsV s else []
set_option maxHeartbeats 4000000 in
theorem readList_any (s : List UInt8) (w : World) (hs : s.length ≤ 1073741824) (hw : LayE w) :
  Calls Tryz.prog 87 #[.string ⟨s.toArray⟩] w (Ret2 fun v0 v1 w' => v1 = .bool (okL s) ∧ OI w.heap.size w' v0 (lisV s) ∧ Chg No w w') := by
 have k0 := (Chg.refl No w).alloc (.cells #[] 3)
 have o0 : OI w.heap.size (w.alloc (.cells #[] 3)) (.slice (some ⟨w.heap.size, 0, none⟩) 0 0) [] := OI.zero (Nat.le_refl _)
 have q1 := Lib.hid (fun W => splitAt_all s 32 W hs)
 obtain ⟨L, hL⟩ : ∃ L, splitC 32 s = L := ⟨_, rfl⟩
 rw [hL] at q1
 have HLL := Lib.hid hL
 have hLn : L.length ≤ 1073741825 := by rw [← hL]; have := split_len 32 s; omega
 clear hL
 go_enter Tryz.func87, Tryz.ntmps87
 go_wp2_with (go_at_call 134; refine (q1.out _).mono ?_; rintro e w1 ⟨g, m, cap, rfl, hsr, hk1⟩)
 obtain ⟨hm0, hg, hmc, hcm, hwa⟩ := hsr.words
 have o1 := o0.keep hk1
 have kk := k0.keep hk1
 have hgw : w.heap.size < g := by have := hg; simp at this; omega
 have hm121 : m ≤ 1073741825 := by omega
 clear hsr o0 k0 hm0 hg hLn
 go_loopw [4, 13] (fun o i wr => ∃ k : Nat, k ≤ m ∧ i = .int .i64 k ∧ OI w.heap.size wr o ((L.take k).map valS) ∧ ¬ own o g ∧ WordsAt wr g m L ∧ Hid (NumW L k) ∧ Chg No w wr) (fun _ i _ => m - (intOf i).toNat)
 case atStart => exact ⟨0, Nat.zero_le _, rfl, o1, fun e => by rw [own_slice] at e; omega, hwa, Lib.hid (fun x hx => by simp at hx), kk⟩
 case round =>
  clear o1 kk hwa hk1
  obtain ⟨k, hk, rfl, ho, hog, hwa, HG, hch⟩ := hrel
  have hszz := hch.size
  by_cases hlt : k < m
  ·have hck := hwa.2.2 k hlt
   have hkl : k < L.length := by rw [hwa.1]; exact hlt
   have hxm := getD_mem' hkl []
   have hxl : (L.getD k []).length ≤ s.length := split_part_len 32 s _ (by rw [HLL.out]; exact hxm)
   have HW : Hid ((L.take (k + 1)).map valS = (L.take k).map valS ++ [valS (L.getD k [])]) := Lib.hid (by rw [← HLL.out]; exact wv_snoc s k (by rw [HLL.out]; exact hkl))
   have HSU := Lib.hid (HG.out.succ hkl)
   have HBAD : Hid (decM (L.getD k []) = false → okL s = false) := Lib.hid (fun h => by
    unfold okL
    rw [HLL.out, List.all_eq_false]
    exact ⟨_, hxm, by rw [h]; decide⟩)
   obtain ⟨x, hx⟩ : ∃ x, L.getD k [] = x := ⟨_, rfl⟩
   rw [hx] at hck hxl HW HSU HBAD
   have q := Lib.hid (readDec_any x wr (by omega) (hw.keep hch))
   clear hxm hx
   obtain ⟨l, hl0⟩ : ∃ l, (L.take k).map valS = l := ⟨_, rfl⟩
   have hlk : l.length ≤ k := by rw [← hl0]; simp; omega
   rw [hl0] at ho HW
   clear hl0
   obtain ⟨oa, oq, rfl, hov⟩ := ho.view
   clear hov
   cases hnb : decM x with
   | false =>
    have HF := Lib.hid (HBAD.out hnb)
    have HV : Hid (lisV s = []) := Lib.hid (by unfold lisV; rw [HF.out]; rfl)
    rw [hnb] at q
    clear hnb
    go_wp2_with (go_at_call 42; refine q.out.mono ?_; rintro e w2 ⟨rfl, hk2⟩)
    go_ret2
    refine ⟨_, _, rfl, by rw [HF.out]; rfl, ?_, hch.trans hk2⟩
    rw [HV.out]
    exact OI.nil _ _
   | true =>
    have hrd : decN x = valS x := by unfold decN; rw [hnb]; rfl
    rw [hnb, hrd] at q
    obtain ⟨z, hz⟩ : ∃ z, valS x = z := ⟨_, rfl⟩
    rw [hz] at q HW
    have HSU2 := Lib.hid (HSU.out hnb)
    clear hnb hrd hz HSU HBAD
    go_wp2_with (first | (go_at_call 42; refine q.out.mono ?_; rintro e w2 ⟨rfl, hk2⟩; have ho2 := ho.keep hk2; have hsz2 := hk2.size) | (at_builtin; refine wapp1 rfl (.tmp 24) (.tmp 26) rfl ho2 rfl rfl (by omega) (by omega) ?_))
    intro v3 w3 o3 k3 f3
    obtain ⟨a3, q3, rfl, hv3⟩ := o3.view
    clear hv3
    have hch3 := (hch.trans hk2).step k3 (fun q hq hl => by have := (ho.lt q hq).1; omega)
    have hwa3 := (hwa.step hk2 (fun e => e)).step k3 hog
    have hog3 : ¬ own (.slice a3 (l ++ [z]).length q3) g := fun e => by
     rcases f3 g e with h | h
     ·exact hog h
     ·have := hwa.2.1
      omega
    go_wp2_with fail
    refine ⟨⟨k + 1, by omega, by go_num, by rw [HW.out]; exact o3, hog3, hwa3, HSU2, hch3⟩, by simp [intOf]; omega⟩
  ·have hmk : k = L.length := by have := hwa.1; omega
   have HF : Hid (okL s = true) := Lib.hid (by
    unfold okL
    rw [HLL.out, List.all_eq_true]
    intro x hx
    exact HG.out x (by rw [hmk, List.take_length]; exact hx))
   have HV : Hid (lisV s = (L.take k).map valS) := Lib.hid (by unfold lisV; rw [HF.out, hmk, List.take_length, ← HLL.out]; rfl)
   rw [← HV.out] at ho
   go_wp2_with fail
   go_ret2
   exact ⟨_, _, rfl, by rw [HF.out]; rfl, ho, hch⟩
theorem okL_bad {n : Int} {s : List UInt8} (hs : s ≠ noneT) (h : okL s = false) : parR n s = none := parR_none fun l h1 h2 => by
 obtain ⟨a, b, c⟩ := reqB_parts h1
 obtain ⟨_, e⟩ := req_words h2 hs
 have : okL s = true := by
  unfold okL
  rw [e, List.all_eq_true]
  intro x hx
  obtain ⟨v, hv, rfl⟩ := List.mem_map.1 hx
  have := c v hv
  unfold decM
  rw [isNum_itoa, valS_itoa, inB_iff.2 (by omega)]; rfl
 rw [this] at h; cases h
theorem okL_good {n : Int} {s : List UInt8} (hs : s ≠ noneT) (h : okL s = true) : parR n s = if reqB n (wordsV s) then some (wordsV s) else none :=
 parR_words hs (fun x hx => (decM_parts (by unfold okL at h; rw [List.all_eq_true] at h; exact h x hx)).1)
set_option maxHeartbeats 4000000 in
theorem implParseRequests_any (n : Int) (s : List UInt8) (w : World) (hs : s.length ≤ 1073741824) (hw : LayE w) :
  Calls Tryz.prog 43 #[.int .i64 n, .string ⟨s.toArray⟩] w (Ret2 fun v0 v1 w' => v1 = .bool (parR n s).isSome ∧ OI w.heap.size w' v0 ((parR n s).getD []) ∧ Chg No w w') := by
 by_cases hno : s = noneT
 ·subst hno
  have q := Lib.hid (fun W => isItems_any n W)
  have HF : Hid ((parR n noneT).isSome = inB n 1 8 ∧ (parR n noneT).getD [] = []) := Lib.hid (by
   rw [parR_no]
   cases inB n 1 8 <;> exact ⟨rfl, rfl⟩)
  rw [HF.out.1, HF.out.2]
  obtain ⟨b, hb⟩ : ∃ b, inB n 1 8 = b := ⟨_, rfl⟩
  rw [hb] at q ⊢
  go_enter Tryz.func43, Tryz.ntmps43
  go_wp2_with (go_at_call 53; refine (q.out _).mono ?_; rintro e w' ⟨rfl, rfl⟩)
  go_ret2
  exact ⟨_, _, rfl, rfl, OI.nil _ _, Chg.refl No _⟩
 ·have hnq : (s == [110, 111, 110, 101]) = false := beq_eq_false_iff_ne.2 hno
  have q1 := Lib.hid (readList_any s w hs hw)
  cases hok : okL s with
  | false =>
   have HF := Lib.hid (okL_bad (n := n) hno hok)
   rw [hok] at q1
   clear hno hok
   go_enter Tryz.func43, Tryz.ntmps43
   go_wp2_with (go_at_call 87; refine q1.out.mono ?_; rintro e w1 ⟨v0, _, rfl, rfl, ho, hk1⟩)
   go_ret2
   exact ⟨_, _, rfl, by rw [HF.out]; rfl, by rw [HF.out]; exact OI.nil _ _, hk1⟩
  | true =>
   have HP := okL_good (n := n) hno hok
   have hlv : lisV s = wordsV s := by unfold lisV; rw [hok]; rfl
   rw [hok, hlv] at q1
   obtain ⟨l, hl⟩ : ∃ l, wordsV s = l := ⟨_, rfl⟩
   rw [hl] at HP q1
   clear hno hok hlv hl
   cases hrb : reqB n l with
   | true =>
    have HF : Hid (parR n s = some l) := Lib.hid (by rw [HP, hrb]; rfl)
    have HR := Lib.hid hrb
    clear HP hrb
    go_enter Tryz.func43, Tryz.ntmps43
    go_wp2_with (first | (go_at_call 87; refine q1.out.mono ?_; rintro e w1 ⟨v0, _, rfl, rfl, ho, hk1⟩; obtain ⟨oa, oq, rfl, hov⟩ := ho.view; clear hov; have HO := Lib.hid (And.intro ho (ho.read (A := No) (fun _ _ e => e)))) | (go_at_call 56; refine (IsRequests_any No _ l n _ HO.out.2).mono ?_; rintro e w2 ⟨_, rfl, rfl, hk2⟩; rw [show (inB n 1 8 && decide (l.length ≤ 60) && belowB n l) = true from HR.out]))
    go_ret2
    exact ⟨_, _, rfl, by rw [HF.out]; rfl, by rw [HF.out]; exact HO.out.1.keep hk2, hk1.trans hk2⟩
   | false =>
    have HF : Hid (parR n s = none) := Lib.hid (by rw [HP, hrb]; rfl)
    have HR := Lib.hid hrb
    clear HP hrb
    go_enter Tryz.func43, Tryz.ntmps43
    go_wp2_with (first | (go_at_call 87; refine q1.out.mono ?_; rintro e w1 ⟨v0, _, rfl, rfl, ho, hk1⟩; obtain ⟨oa, oq, rfl, hov⟩ := ho.view; clear hov; have HO := Lib.hid (And.intro ho (ho.read (A := No) (fun _ _ e => e)))) | (go_at_call 56; refine (IsRequests_any No _ l n _ HO.out.2).mono ?_; rintro e w2 ⟨_, rfl, rfl, hk2⟩; rw [show (inB n 1 8 && decide (l.length ≤ 60) && belowB n l) = false from HR.out]))
    go_ret2
    exact ⟨_, _, rfl, by rw [HF.out]; rfl, by rw [HF.out]; exact OI.nil _ _, hk1.trans hk2⟩
end Go.Proofs.YtdgcohoneijleaaGreatDoor
namespace Go.Proofs.YtdgcohoneijleaaGreatDoor
open Go.RowKit
def zeroPl : Pl := ⟨0, zeroC, 0⟩
def entP (s : List UInt8) (rq : List Int) : Pl := servedP (entN s).2.2 (entN s).1 (entN s).2.1 (rq.drop (entN s).2.2.toNat)
def entQ (s : List UInt8) (rq : List Int) : Pl := if entB s rq.length then entP s rq else zeroPl
theorem RPO.zero (base : Nat) (w : World) : RPO base w (.agg #[.int .i64 0, .int .i64 0, .int .i64 0, .slice none 0 0, .slice none 0 0, .int .i64 0, .int .i64 0]) zeroPl :=
 ⟨_, _, rfl, OI.nil _ _, OI.nil _ _, fun q hq => by simp [own, Value.ownBlock] at hq⟩
set_option maxHeartbeats 4000000 in
theorem l12Entry_any (s : List UInt8) (vr : Value) (rq : List Int) (w : World) (hs : s.length ≤ 1073741824) (hr : RI No w vr rq) :
  Calls Tryz.prog 40 #[.string ⟨s.toArray⟩, vr] w (Ret2 fun v0 v1 w' => v1 = .bool (entB s rq.length) ∧ RPO w.heap.size w' v0 (entQ s rq) ∧ Chg No w w') := by
 obtain ⟨ra, rc, rfl, _, _, hrl, _, _⟩ := id hr
 have k0 := (Chg.refl No w).alloc (.cells #[.int .i64 0, .int .i64 0, .int .i64 0, .slice none 0 0, .slice none 0 0, .int .i64 0, .int .i64 0] 68)
 have b7 := Box7.new w (.int .i64 0) (.int .i64 0) (.int .i64 0) (.slice none 0 0) (.slice none 0 0) (.int .i64 0) (.int .i64 0) 68
 have hr1 := hr.keep k0
 obtain ⟨A, hA⟩ : ∃ A, preB 47 s = A := ⟨_, rfl⟩
 obtain ⟨B, hB⟩ : ∃ B, postB 47 s = B := ⟨_, rfl⟩
 obtain ⟨C, hC⟩ : ∃ C, preB 32 B = C := ⟨_, rfl⟩
 obtain ⟨D, hD⟩ : ∃ D, postB 32 B = D := ⟨_, rfl⟩
 have hBl : B.length ≤ s.length := by
  rw [← hB]; unfold postB
  rw [List.length_drop]
  have := (List.dropWhile_sublist (fun x : UInt8 => x != 47) (l := s)).length_le
  omega
 have hDl : D.length ≤ B.length := by
  rw [← hD]; unfold postB
  rw [List.length_drop]
  have := (List.dropWhile_sublist (fun x : UInt8 => x != 32) (l := B)).length_le
  omega
 have hCl : C.length ≤ B.length := by rw [← hC]; exact pre_le _ _
 have hEB : entB s rq.length = (numB C && numB D && (inB (polOf A) 1 7 && inB (valS C) 1 6) && inB (valS D) 0 rq.length) := by
  unfold entB; rw [hA, hB, hC, hD]
 have hEN : entN s = (polOf A, valS C, valS D) := by unfold entN; rw [hA, hB, hC, hD]
 have q1 := Lib.hid (fun W => (l4Cut_any s 47 W hs : Calls Tryz.prog 81 #[.string ⟨s.toArray⟩, .int .u8 47] W _))
 have q2 := Lib.hid (fun W => (l4Cut_any B 32 W (by omega) : Calls Tryz.prog 81 #[.string ⟨B.toArray⟩, .int .u8 32] W _))
 have q3 := Lib.hid (fun W => l4Policy_any A W)
 have q4 := Lib.hid (fun W => l1Read_any C W (by omega))
 have q5 := Lib.hid (fun W => l1Read_any D W (by omega))
 unfold cutV at q1 q2
 rw [hA, hB] at q1
 rw [hC, hD] at q2
 clear hA hB hC hD hBl hCl hDl
 cases hc : numB C with
 | false =>
  have HE : Hid (entB s rq.length = false) := Lib.hid (by rw [hEB, hc]; rfl)
  have HQ : Hid (entQ s rq = zeroPl) := Lib.hid (by unfold entQ; rw [HE.out]; rfl)
  rw [hc] at q4
  clear hEB hEN hc
  go_enter Tryz.func40, Tryz.ntmps40
  go_wp2_with fail
  refine (q1.out _).mono ?_
  rintro e w1 ⟨rfl, m1, rfl⟩
  go_wp2_with fail
  refine (q2.out _).mono ?_
  rintro e w2 ⟨rfl, m2, rfl⟩
  go_wp2_with fail
  refine (q3.out _).mono ?_
  rintro e w3 ⟨rfl, hk3⟩
  have hk3 := (drewN_chg' _ _).trans hk3
  go_wp2_with fail
  refine (q4.out _).mono ?_
  rintro e w4 ⟨rfl, m4, rfl⟩
  go_wp2_with fail
  refine (q5.out _).mono ?_
  rintro e w5 ⟨rfl, m5, rfl⟩
  have hch := hk3.trans (drewN_chg' w3 (m4 + m5))
  clear hk3
  have bz := b7.keep hch
  have kz := k0.keep hch
  obtain ⟨s0, s1, s2, s3, s4, s5, s6, sf⟩ := id bz
  have sf0 := sf 0
  have sf1 := sf 1
  have sf2 := sf 2
  have sf3 := sf 3
  have sf4 := sf 4
  have sf5 := sf 5
  have sf6 := sf 6
  clear sf
  have bz2 := bz.put7 (.int .i64 0) (.int .i64 0) (.int .i64 0) (.slice none 0 0) (.slice none 0 0) (.int .i64 0) (.int .i64 0)
  have kz2 := kz.put7 (b := w.heap.size) (fun h => absurd h (Nat.lt_irrefl _)) (.int .i64 0) (.int .i64 0) (.int .i64 0) (.slice none 0 0) (.slice none 0 0) (.int .i64 0) (.int .i64 0)
  obtain ⟨z0, z1, z2, z3, z4, z5, z6, _⟩ := id bz2
  go_wp2_with fail
  refine bodyPost_ret (v := .tuple #[.agg #[.int .i64 0, .int .i64 0, .int .i64 0, .slice none 0 0, .slice none 0 0, .int .i64 0, .int .i64 0], .bool false]) (by simp [results, Tryz.results40, go_sem, z0, z1, z2, z3, z4, z5, z6]) rfl ?_
  exact ⟨_, _, rfl, by rw [HE.out], by rw [HQ.out]; exact RPO.zero _ _, kz2⟩
 | true =>
  have hrc : rdN C = valS C := by unfold rdN; rw [hc]; rfl
  rw [hc, hrc] at q4
  cases hd : numB D with
  | false =>
   have HE : Hid (entB s rq.length = false) := Lib.hid (by rw [hEB, hc, hd]; rfl)
   have HQ : Hid (entQ s rq = zeroPl) := Lib.hid (by unfold entQ; rw [HE.out]; rfl)
   rw [hd] at q5
   clear hEB hEN hc hd hrc
   go_enter Tryz.func40, Tryz.ntmps40
   go_wp2_with fail
   refine (q1.out _).mono ?_
   rintro e w1 ⟨rfl, m1, rfl⟩
   go_wp2_with fail
   refine (q2.out _).mono ?_
   rintro e w2 ⟨rfl, m2, rfl⟩
   go_wp2_with fail
   refine (q3.out _).mono ?_
   rintro e w3 ⟨rfl, hk3⟩
   have hk3 := (drewN_chg' _ _).trans hk3
   go_wp2_with fail
   refine (q4.out _).mono ?_
   rintro e w4 ⟨rfl, m4, rfl⟩
   go_wp2_with fail
   refine (q5.out _).mono ?_
   rintro e w5 ⟨rfl, m5, rfl⟩
   have hch := hk3.trans (drewN_chg' w3 (m4 + m5))
   clear hk3
   have bz := b7.keep hch
   have kz := k0.keep hch
   obtain ⟨s0, s1, s2, s3, s4, s5, s6, sf⟩ := id bz
   have sf0 := sf 0
   have sf1 := sf 1
   have sf2 := sf 2
   have sf3 := sf 3
   have sf4 := sf 4
   have sf5 := sf 5
   have sf6 := sf 6
   clear sf
   have bz2 := bz.put7 (.int .i64 0) (.int .i64 0) (.int .i64 0) (.slice none 0 0) (.slice none 0 0) (.int .i64 0) (.int .i64 0)
   have kz2 := kz.put7 (b := w.heap.size) (fun h => absurd h (Nat.lt_irrefl _)) (.int .i64 0) (.int .i64 0) (.int .i64 0) (.slice none 0 0) (.slice none 0 0) (.int .i64 0) (.int .i64 0)
   obtain ⟨z0, z1, z2, z3, z4, z5, z6, _⟩ := id bz2
   go_wp2_with fail
   refine bodyPost_ret (v := .tuple #[.agg #[.int .i64 0, .int .i64 0, .int .i64 0, .slice none 0 0, .slice none 0 0, .int .i64 0, .int .i64 0], .bool false]) (by simp [results, Tryz.results40, go_sem, z0, z1, z2, z3, z4, z5, z6]) rfl ?_
   exact ⟨_, _, rfl, by rw [HE.out], by rw [HQ.out]; exact RPO.zero _ _, kz2⟩
  | true =>
   have hrd : rdN D = valS D := by unfold rdN; rw [hd]; rfl
   rw [hd, hrd] at q5
   rw [hc, hd, Bool.true_and, Bool.true_and] at hEB
   clear hc hd hrc hrd
   obtain ⟨zp, hzp⟩ : ∃ zp, polOf A = zp := ⟨_, rfl⟩
   obtain ⟨zs, hzs⟩ : ∃ zs, valS C = zs := ⟨_, rfl⟩
   obtain ⟨zf, hzf⟩ : ∃ zf, valS D = zf := ⟨_, rfl⟩
   rw [hzp] at q3
   rw [hzs] at q4
   rw [hzf] at q5
   rw [hzp, hzs, hzf] at hEB hEN
   clear hzp hzs hzf
   cases hsz : (inB zp 1 7 && inB zs 1 6) with
   | false =>
    have HE : Hid (entB s rq.length = false) := Lib.hid (by rw [hEB, hsz]; rfl)
    have HQ : Hid (entQ s rq = zeroPl) := Lib.hid (by unfold entQ; rw [HE.out]; rfl)
    have HSZ := Lib.hid hsz
    clear hEB hEN hsz
    go_enter Tryz.func40, Tryz.ntmps40
    go_wp2_with fail
    refine (q1.out _).mono ?_
    rintro e w1 ⟨rfl, m1, rfl⟩
    go_wp2_with fail
    refine (q2.out _).mono ?_
    rintro e w2 ⟨rfl, m2, rfl⟩
    go_wp2_with fail
    refine (q3.out _).mono ?_
    rintro e w3 ⟨rfl, hk3⟩
    have hk3 := (drewN_chg' _ _).trans hk3
    go_wp2_with fail
    refine (q4.out _).mono ?_
    rintro e w4 ⟨rfl, m4, rfl⟩
    go_wp2_with fail
    refine (q5.out _).mono ?_
    rintro e w5 ⟨rfl, m5, rfl⟩
    have hch := hk3.trans (drewN_chg' w3 (m4 + m5))
    clear hk3
    go_wp2_with fail
    refine (l4Sizes_any _ _ _).mono ?_
    rintro e w' ⟨rfl, rfl⟩
    rw [HSZ.out]
    have bz := b7.keep hch
    have kz := k0.keep hch
    obtain ⟨s0, s1, s2, s3, s4, s5, s6, sf⟩ := id bz
    have sf0 := sf 0
    have sf1 := sf 1
    have sf2 := sf 2
    have sf3 := sf 3
    have sf4 := sf 4
    have sf5 := sf 5
    have sf6 := sf 6
    clear sf
    have bz2 := bz.put7 (.int .i64 0) (.int .i64 0) (.int .i64 0) (.slice none 0 0) (.slice none 0 0) (.int .i64 0) (.int .i64 0)
    have kz2 := kz.put7 (b := w.heap.size) (fun h => absurd h (Nat.lt_irrefl _)) (.int .i64 0) (.int .i64 0) (.int .i64 0) (.slice none 0 0) (.slice none 0 0) (.int .i64 0) (.int .i64 0)
    obtain ⟨z0, z1, z2, z3, z4, z5, z6, _⟩ := id bz2
    go_wp2_with fail
    refine bodyPost_ret (v := .tuple #[.agg #[.int .i64 0, .int .i64 0, .int .i64 0, .slice none 0 0, .slice none 0 0, .int .i64 0, .int .i64 0], .bool false]) (by simp [results, Tryz.results40, go_sem, z0, z1, z2, z3, z4, z5, z6]) rfl ?_
    exact ⟨_, _, rfl, by rw [HE.out], by rw [HQ.out]; exact RPO.zero _ _, kz2⟩
   | true =>
    have HSZ := Lib.hid hsz
    cases hin : inB zf 0 rq.length with
    | false =>
     have HE : Hid (entB s rq.length = false) := Lib.hid (by rw [hEB, hsz, hin]; rfl)
     have HQ : Hid (entQ s rq = zeroPl) := Lib.hid (by unfold entQ; rw [HE.out]; rfl)
     have HIN := Lib.hid hin
     clear hEB hEN hsz hin
     go_enter Tryz.func40, Tryz.ntmps40
     go_wp2_with fail
     refine (q1.out _).mono ?_
     rintro e w1 ⟨rfl, m1, rfl⟩
     go_wp2_with fail
     refine (q2.out _).mono ?_
     rintro e w2 ⟨rfl, m2, rfl⟩
     go_wp2_with fail
     refine (q3.out _).mono ?_
     rintro e w3 ⟨rfl, hk3⟩
     have hk3 := (drewN_chg' _ _).trans hk3
     go_wp2_with fail
     refine (q4.out _).mono ?_
     rintro e w4 ⟨rfl, m4, rfl⟩
     go_wp2_with fail
     refine (q5.out _).mono ?_
     rintro e w5 ⟨rfl, m5, rfl⟩
     have hch := hk3.trans (drewN_chg' w3 (m4 + m5))
     clear hk3
     go_wp2_with fail
     refine (l4Sizes_any _ _ _).mono ?_
     rintro e w' ⟨rfl, rfl⟩
     rw [HSZ.out]
     go_wp2_with fail
     refine (l1In_any _ _ _ _).mono ?_
     rintro e w' ⟨rfl, rfl⟩
     rw [HIN.out]
     have bz := b7.keep hch
     have kz := k0.keep hch
     obtain ⟨s0, s1, s2, s3, s4, s5, s6, sf⟩ := id bz
     have sf0 := sf 0
     have sf1 := sf 1
     have sf2 := sf 2
     have sf3 := sf 3
     have sf4 := sf 4
     have sf5 := sf 5
     have sf6 := sf 6
     clear sf
     have bz2 := bz.put7 (.int .i64 0) (.int .i64 0) (.int .i64 0) (.slice none 0 0) (.slice none 0 0) (.int .i64 0) (.int .i64 0)
     have kz2 := kz.put7 (b := w.heap.size) (fun h => absurd h (Nat.lt_irrefl _)) (.int .i64 0) (.int .i64 0) (.int .i64 0) (.slice none 0 0) (.slice none 0 0) (.int .i64 0) (.int .i64 0)
     obtain ⟨z0, z1, z2, z3, z4, z5, z6, _⟩ := id bz2
     go_wp2_with fail
     refine bodyPost_ret (v := .tuple #[.agg #[.int .i64 0, .int .i64 0, .int .i64 0, .slice none 0 0, .slice none 0 0, .int .i64 0, .int .i64 0], .bool false]) (by simp [results, Tryz.results40, go_sem, z0, z1, z2, z3, z4, z5, z6]) rfl ?_
     exact ⟨_, _, rfl, by rw [HE.out], by rw [HQ.out]; exact RPO.zero _ _, kz2⟩
    | true =>
     have HE : Hid (entB s rq.length = true) := Lib.hid (by rw [hEB, hsz, hin]; rfl)
     have HQ : Hid (entQ s rq = servedP zf zp zs (rq.drop zf.toNat)) := Lib.hid (by unfold entQ entP; rw [HE.out, hEN]; rfl)
     have HIN := Lib.hid hin
     have hzf := inB_iff.1 hin
     have hok : Ok (newC zp zs) := by
      rw [Bool.and_eq_true, inB_iff, inB_iff] at hsz
      exact ok_new hsz.1 hsz.2
     have HP := Lib.hid (fun W h => l12Player_any zf zp zs zf.toNat (by omega) (.slice ra rq.length rc) rq (by omega) W h hok)
     clear hEB hEN hsz hin hok
     go_enter Tryz.func40, Tryz.ntmps40
     go_wp2_with fail
     refine (q1.out _).mono ?_
     rintro e w1 ⟨rfl, m1, rfl⟩
     go_wp2_with fail
     refine (q2.out _).mono ?_
     rintro e w2 ⟨rfl, m2, rfl⟩
     go_wp2_with fail
     refine (q3.out _).mono ?_
     rintro e w3 ⟨rfl, hk3⟩
     have hk3 := (drewN_chg' _ _).trans hk3
     go_wp2_with fail
     refine (q4.out _).mono ?_
     rintro e w4 ⟨rfl, m4, rfl⟩
     go_wp2_with fail
     refine (q5.out _).mono ?_
     rintro e w5 ⟨rfl, m5, rfl⟩
     have hch := hk3.trans (drewN_chg' w3 (m4 + m5))
     clear hk3
     have bz := b7.keep hch
     have kz := k0.keep hch
     have hrz := hr1.keep hch
     have hg3 : w.heap.size < w3.heap.size := bz.lt
     go_wp2_with fail
     refine (l4Sizes_any _ _ _).mono ?_
     rintro e w' ⟨rfl, rfl⟩
     rw [HSZ.out]
     go_wp2_with fail
     refine (l1In_any _ _ _ _).mono ?_
     rintro e w' ⟨rfl, rfl⟩
     rw [HIN.out]
     go_wp2_with fail
     refine (HP.out _ hrz).mono ?_
     rintro e w6 ⟨v6, rfl, r6, k6⟩
     have bz := bz.keep k6
     have kz := kz.keep k6
     have hlt6 := bz.lt
     obtain ⟨z, hz⟩ : ∃ z, servedP zf zp zs (rq.drop zf.toNat) = z := ⟨_, rfl⟩
     rw [hz] at r6 HQ
     clear hz hrz hch
     obtain ⟨pv, mv, rfl, hxp, hxm, hxa⟩ := r6
     obtain ⟨oa, on, oc, rfl⟩ := hxp.shape
     obtain ⟨qa, qn, qc, rfl⟩ := hxm.shape
     have hpb : ∀ q, own (.slice oa on oc) q → q ≠ w.heap.size := fun q hq e => by have := (hxp.lt q hq).1; simp at this; omega
     have hmb : ∀ q, own (.slice qa qn qc) q → q ≠ w.heap.size := fun q hq e => by have := (hxm.lt q hq).1; simp at this; omega
     have hxp2 := (hxp.put7 (b := w.heap.size) hpb (.int .i64 z.frm) (.int .i64 z.ca.pol) (.int .i64 z.ca.size) (.slice oa on oc) (.slice qa qn qc) (.int .i64 z.ca.hand) (.int .i64 z.fa)).weak (base' := w.heap.size) (by simp; omega)
     have hxm2 := (hxm.put7 (b := w.heap.size) hmb (.int .i64 z.frm) (.int .i64 z.ca.pol) (.int .i64 z.ca.size) (.slice oa on oc) (.slice qa qn qc) (.int .i64 z.ca.hand) (.int .i64 z.fa)).weak (base' := w.heap.size) (by simp; omega)
     obtain ⟨s0, s1, s2, s3, s4, s5, s6, sf⟩ := id bz
     have sf0 := sf 0
     have sf1 := sf 1
     have sf2 := sf 2
     have sf3 := sf 3
     have sf4 := sf 4
     have sf5 := sf 5
     have sf6 := sf 6
     clear sf
     have bz2 := bz.put7 (.int .i64 z.frm) (.int .i64 z.ca.pol) (.int .i64 z.ca.size) (.slice oa on oc) (.slice qa qn qc) (.int .i64 z.ca.hand) (.int .i64 z.fa)
     have kz2 := kz.put7 (b := w.heap.size) (fun h => absurd h (Nat.lt_irrefl _)) (.int .i64 z.frm) (.int .i64 z.ca.pol) (.int .i64 z.ca.size) (.slice oa on oc) (.slice qa qn qc) (.int .i64 z.ca.hand) (.int .i64 z.fa)
     obtain ⟨z0, z1, z2, z3, z4, z5, z6, _⟩ := id bz2
     clear hxp hxm hpb hmb
     go_wp2_with fail
     refine bodyPost_ret (v := .tuple #[.agg #[.int .i64 z.frm, .int .i64 z.ca.pol, .int .i64 z.ca.size, .slice oa on oc, .slice qa qn qc, .int .i64 z.ca.hand, .int .i64 z.fa], .bool true]) (by simp [results, Tryz.results40, go_sem, z0, z1, z2, z3, z4, z5, z6]) rfl ?_
     exact ⟨_, _, rfl, by rw [HE.out], by rw [HQ.out]; exact ⟨_, _, rfl, hxp2, hxm2, hxa⟩, kz2⟩
end Go.Proofs.YtdgcohoneijleaaGreatDoor
