import Derived.Test.YtdgcohoneijleaaGreatDoorPkX16
set_option maxRecDepth 100000
namespace Go.Proofs.YtdgcohoneijleaaGreatDoor
open Go.RowKit
structure LayE (w : World) : Prop where
 lay : Lay w
 syn : ∃ te pe, w.cell? ⟨1, 0, none⟩ = some (.iface te pe)
 rng : ∃ te pe, w.cell? ⟨2, 0, none⟩ = some (.iface te pe)
theorem LayE.keep {w w' : World} (h : LayE w) (hc : Chg No w w') : LayE w' := by
 refine ⟨h.lay.keep hc, ?_, ?_⟩
 ·obtain ⟨te, pe, e⟩ := h.syn
  exact ⟨te, pe, (hc.cellD _ 0 (World.block_lt_of_cell? w _ e) (fun e => e)).trans e⟩
 ·obtain ⟨te, pe, e⟩ := h.rng
  exact ⟨te, pe, (hc.cellD _ 0 (World.block_lt_of_cell? w _ e) (fun e => e)).trans e⟩
def decM (s : List UInt8) : Bool := isNum s && inB (valS s) (-9223372036854775808) 9223372036854775807
def decN (s : List UInt8) : Int := if decM s then valS s else 0
theorem decM_parts {s : List UInt8} (h : decM s = true) : isNum s = true ∧ -9223372036854775808 ≤ valS s ∧ valS s ≤ 9223372036854775807 := by
 unfold decM at h
 rw [Bool.and_eq_true, inB_iff] at h
 exact h
theorem decM_atoi {s : List UInt8} (h : decM s = true) : Lib.atoiAll s = .ok (valS s) := by
 obtain ⟨h1, h2, h3⟩ := decM_parts h
 have := atoi_itoa (valS s) h2 h3
 rw [itoa_val h1] at this
 exact this
theorem decZ_any (v : Int) (h0 : -9223372036854775808 ≤ v) (h1 : v ≤ 9223372036854775807) (w : World) (hw : Lay w) :
  Calls Tryz.prog 76 #[.int .i64 v] w fun e w' => e = .returned (.string ⟨(Lib.itoa v).toArray⟩) ∧ Chg No w w' := by
 have HT := Lib.hid hw.tab
 clear hw
 go_enter Tryz.func76, Tryz.ntmps76
 go_wp2_with (go_at_call 122; refine (Tryz.strconv_Itoa _ h0 h1 _ HT.out).mono ?_; rintro e w' ⟨rfl, k, os, rfl⟩)
 go_ret
 exact ⟨rfl, (drewN_chg' w k).trans (chg_grow' _ os)⟩
theorem atoiW (w w' : World) (h : w' = w ∨ ∃ t, w' = Lib.bytesWorld w 5 t) : Chg No w w' := by
 rcases h with rfl | ⟨t, rfl⟩
 ·exact Chg.refl No _
 ·exact Chg.ofBelow (Lib.bytesWorld_below w 5 t)
set_option maxHeartbeats 1000000 in
theorem readDec_any (s : List UInt8) (w : World) (hs : s.length ≤ 1073741824) (hw : LayE w) :
  Calls Tryz.prog 42 #[.string ⟨s.toArray⟩] w fun e w' => e = .returned (.tuple #[.int .i64 (decN s), .bool (decM s)]) ∧ Chg No w w' := by
 have hsz : (⟨s.toArray⟩ : ByteArray).size = s.length := by simp [ByteArray.size]
 cases ha : Lib.atoiAll s with
 | ok v =>
  have hb := Lib.atoiAll_bounds ha
  have q1 := Lib.hid (Tryz.strconv_Atoi_ok ⟨s.toArray⟩ (by omega) v ha w)
  have q2 := Lib.hid (fun W h => decZ_any v hb.1 hb.2 W h)
  have HL := Lib.hid hw.lay
  obtain ⟨Z, hZ⟩ : ∃ Z, Lib.itoa v = Z := ⟨_, rfl⟩
  rw [hZ] at q2
  by_cases he : Z = s
  ·have hn := isNum_of (hZ.trans he)
   have HM : Hid (decM s = true) := Lib.hid (by unfold decM; rw [hn.1, hn.2, inB_iff.2 hb]; rfl)
   have HN : Hid (decN s = v) := Lib.hid (by unfold decN; rw [HM.out]; exact hn.2)
   have heq : (Z == s) = true := by rw [he]; simp
   clear ha hb hZ hn he hw hsz
   go_enter Tryz.func42, Tryz.ntmps42
   go_wp2_with (first | (go_at_call 86; refine q1.out.mono ?_; rintro e w1 ⟨rfl, hk0⟩; have hk1 := atoiW _ _ hk0; clear hk0) | (go_at_call 76; refine (q2.out _ (HL.out.keep hk1)).mono ?_; rintro e w2 ⟨rfl, hk2⟩))
   go_ret2
   exact ⟨ret2_eq (by rw [HN.out]; rfl) (by rw [HM.out]; rfl), hk1.trans hk2⟩
  ·have HM : Hid (decM s = false) := Lib.hid (by
    cases hm : decM s with
    | false => rfl
    | true =>
     have h1 := decM_atoi hm
     rw [ha] at h1
     have h2 : v = valS s := by injection h1
     exact absurd (by rw [← hZ, h2]; exact itoa_val (decM_parts hm).1) he)
   have HN : Hid (decN s = 0) := Lib.hid (by unfold decN; rw [HM.out]; rfl)
   have heq : (Z == s) = false := by simpa using he
   clear ha hb hZ he hw hsz
   go_enter Tryz.func42, Tryz.ntmps42
   go_wp2_with (first | (go_at_call 86; refine q1.out.mono ?_; rintro e w1 ⟨rfl, hk0⟩; have hk1 := atoiW _ _ hk0; clear hk0) | (go_at_call 76; refine (q2.out _ (HL.out.keep hk1)).mono ?_; rintro e w2 ⟨rfl, hk2⟩))
   go_ret2
   exact ⟨ret2_eq (by rw [HN.out]; rfl) (by rw [HM.out]; rfl), hk1.trans hk2⟩
 | range =>
  obtain ⟨te, pe, hv⟩ := hw.rng
  have q1 := Lib.hid (Tryz.strconv_Atoi_range ⟨s.toArray⟩ (by omega) ha (.iface te pe) w hv (.inr ⟨te, pe, rfl⟩))
  have HM : Hid (decM s = false) := Lib.hid (by
   cases hm : decM s with
   | false => rfl
   | true => have h1 := decM_atoi hm; rw [ha] at h1; cases h1)
  have HN : Hid (decN s = 0) := Lib.hid (by unfold decN; rw [HM.out]; rfl)
  clear ha hw hsz hv
  go_enter Tryz.func42, Tryz.ntmps42
  go_wp2_with (go_at_call 86; refine q1.out.mono ?_; rintro e w1 ⟨N, rfl, _, _, hk0⟩; have hk1 := Chg.ofBelow hk0; clear hk0)
  go_ret2
  exact ⟨ret2_eq (by rw [HN.out]; rfl) (by rw [HM.out]; rfl), hk1⟩
 | _ =>
  obtain ⟨te, pe, hv⟩ := hw.syn
  have q1 := Lib.hid (Tryz.strconv_Atoi_syntax ⟨s.toArray⟩ (by omega) ⟨fun v e => (by rw [ha] at e; cases e), fun e => (by rw [ha] at e; cases e)⟩ (.iface te pe) w hv (.inr ⟨te, pe, rfl⟩))
  have HM : Hid (decM s = false) := Lib.hid (by
   cases hm : decM s with
   | false => rfl
   | true => have h1 := decM_atoi hm; rw [ha] at h1; cases h1)
  have HN : Hid (decN s = 0) := Lib.hid (by unfold decN; rw [HM.out]; rfl)
  clear ha hw hsz hv
  go_enter Tryz.func42, Tryz.ntmps42
  go_wp2_with (go_at_call 86; refine q1.out.mono ?_; rintro e w1 ⟨N, rfl, _, _, hk0⟩; have hk1 := Chg.ofBelow hk0; clear hk0)
  go_ret2
  exact ⟨ret2_eq (by rw [HN.out]; rfl) (by rw [HM.out]; rfl), hk1⟩
def wordsV (s : List UInt8) : List Int := (splitC 32 s).map valS
theorem sp_len1 : ∀ (l : List Int), (∀ x ∈ l, 0 ≤ x ∧ x < 10) → (spT l).length ≤ 2 * l.length
 | [], _ => by simp [spT, Lib.join_nil]
 | x :: l, h => by
  have one : ∀ x : Int, 0 ≤ x ∧ x < 10 → (Lib.itoa x).length = 1 := fun x hx => by
   obtain ⟨n, rfl⟩ : ∃ n : Nat, x = (n : Int) := ⟨x.toNat, by omega⟩
   rw [itoa_nat', Lib.decDigits, dif_pos (by omega)]; rfl
  have hl : ∀ m : List Int, (∀ x ∈ m, 0 ≤ x ∧ x < 10) → (Lib.joinTail [32] (m.map Lib.itoa)).length ≤ 2 * m.length := by
   intro m
   induction m with
   | nil => intro _; simp [Lib.joinTail]
   | cons y m ih =>
    intro hm
    rw [List.map_cons, joinTail_cons, List.length_append, List.length_append, List.length_cons, one y (hm y (by simp))]
    have := ih (fun z hz => hm z (by simp [hz]))
    simp only [List.length_cons, List.length_nil]
    omega
  have h1 := hl l (fun z hz => h z (by simp [hz]))
  unfold spT
  rw [List.map_cons, Lib.join_cons, List.length_append, List.length_cons, one x (h x (by simp))]
  omega
theorem reqB_parts {n : Int} {l : List Int} (h : reqB n l = true) : (1 ≤ n ∧ n ≤ 8) ∧ l.length ≤ 60 ∧ ∀ x ∈ l, 0 ≤ x ∧ x ≤ n - 1 := by
 unfold reqB at h
 simp only [Bool.and_eq_true, decide_eq_true_eq, inB_iff] at h
 refine ⟨h.1.1, h.1.2, fun x hx => ?_⟩
 have h2 := h.2
 unfold belowB at h2
 rw [List.all_eq_true] at h2
 exact inB_iff.1 (h2 x hx)
theorem parR_len {n : Int} {s : List UInt8} (h : ¬ (1 ≤ n ∧ n ≤ 8) ∨ 120 < s.length) : parR n s = none := parR_none fun l h1 h2 => by
 obtain ⟨a, b, c⟩ := reqB_parts h1
 rcases h with h | h
 ·exact h a
 ·subst h2
  cases l with
  | nil => simp [reqT, noneT] at h
  | cons x l =>
   have := sp_len1 (x :: l) (fun z hz => by have := c z hz; omega)
   rw [reqT] at h
   omega
theorem parR_word {n : Int} {s : List UInt8} (hs : s ≠ noneT) {x : List UInt8} (hx : x ∈ splitC 32 s) (h : isNum x = false ∨ ¬ (0 ≤ valS x ∧ valS x ≤ n - 1)) : parR n s = none := parR_none fun l h1 h2 => by
 obtain ⟨a, b, c⟩ := reqB_parts h1
 obtain ⟨_, e⟩ := req_words h2 hs
 rw [e] at hx
 obtain ⟨v, hv, rfl⟩ := List.mem_map.1 hx
 rw [isNum_itoa, valS_itoa] at h
 rcases h with h | h
 ·cases h
 ·exact h (c v hv)
theorem parR_words {n : Int} {s : List UInt8} (_hs : s ≠ noneT) (h : ∀ x ∈ splitC 32 s, isNum x = true) : parR n s = if reqB n (wordsV s) then some (wordsV s) else none := by
 have hne : wordsV s ≠ [] := fun e => splitC_ne 32 s (List.map_eq_nil_iff.1 e)
 have ht : reqT (wordsV s) = s := by rw [reqT_ne hne]; exact words_sp h
 cases hr : reqB n (wordsV s) with
 | true => rw [if_pos rfl]; exact parR_some.2 ⟨hr, ht⟩
 | false =>
  rw [if_neg (by decide)]
  refine parR_none fun l h1 h2 => ?_
  rw [reqT_inj (ht.trans h2.symm), h1] at hr
  cases hr
theorem parR_no (n : Int) : parR n noneT = if inB n 1 8 then some [] else none := by
 cases h : inB n 1 8 with
 | true => rw [if_pos rfl]; exact parR_some.2 ⟨by unfold reqB; rw [h]; rfl, rfl⟩
 | false =>
  rw [if_neg (by decide)]
  refine parR_none fun l h1 _ => ?_
  rw [inB_iff.2 (reqB_parts h1).1] at h
  cases h
end Go.Proofs.YtdgcohoneijleaaGreatDoor
namespace Go.Proofs.YtdgcohoneijleaaGreatDoor
open Go.RowKit
def WordsAt (w : World) (g n : Nat) (L : List (List UInt8)) : Prop := L.length = n ∧ g < w.heap.size ∧ ∀ i, i < n → w.cell? ⟨g, i, none⟩ = some (.string ⟨(L.getD i []).toArray⟩)
theorem WordsAt.step {w w' : World} {g n : Nat} {L : List (List UInt8)} {S : Nat → Prop} (h : WordsAt w g n L) (hc : Chg S w w') (hS : ¬ S g) : WordsAt w' g n L :=
 ⟨h.1, Nat.lt_of_lt_of_le h.2.1 hc.size, fun i hi => (hc.cellD g i h.2.1 hS).trans (h.2.2 i hi)⟩
theorem SRow.words {base : Nat} {w : World} {g n cap : Nat} {L : List (List UInt8)} (h : SRow base w (.slice (some ⟨g, 0, none⟩) n cap) L) : n = L.length ∧ base ≤ g ∧ n ≤ cap ∧ cap ≤ 9223372036854775807 ∧ WordsAt w g n L := by
 have ha := OS.at h
 obtain ⟨h1, h2, h3, h4, h5, h6, h7⟩ := ha
 have h5' : n = L.length := by simpa using h5
 subst h5'
 refine ⟨rfl, h3, h6, h7, rfl, h4, fun i hi => ?_⟩
 rw [h1 i (by simpa using hi)]
 simp [List.getD_eq_getElem?_getD, sv, hi]
theorem wv_snoc (s : List UInt8) (k : Nat) (hk : k < (splitC 32 s).length) : ((splitC 32 s).take (k + 1)).map valS = ((splitC 32 s).take k).map valS ++ [valS ((splitC 32 s).getD k [])] := by
 rw [List.take_succ_eq_append_getElem hk, List.map_append, List.getD_eq_getElem?_getD, List.getElem?_eq_getElem hk]; rfl
theorem split_len (b : UInt8) : ∀ s : List UInt8, (splitC b s).length ≤ s.length + 1
 | [] => by simp [splitC]
 | x :: s => by
  have := split_len b s
  unfold splitC
  split
  ·simp; omega
  ·split
   ·simp
   ·rename_i h t e
    rw [e] at this
    simp at this ⊢; omega
theorem split_part_len (b : UInt8) : ∀ (s x : List UInt8), x ∈ splitC b s → x.length ≤ s.length
 | [], x, h => by simp [splitC] at h; simp [h]
 | c :: s, x, h => by
  unfold splitC at h
  by_cases hc : c = b
  ·rw [if_pos hc] at h
   rcases List.mem_cons.1 h with rfl | h
   ·simp
   ·have := split_part_len b s x h; simp; omega
  ·rw [if_neg hc] at h
   cases hs : splitC b s with
   | nil => exact absurd hs (splitC_ne b s)
   | cons y t =>
    rw [hs] at h
    simp only [] at h
    rcases List.mem_cons.1 h with rfl | h
    ·have := split_part_len b s y (by rw [hs]; simp); simp; omega
    ·have := split_part_len b s x (by rw [hs]; exact List.mem_cons_of_mem _ h); simp; omega
theorem getD_mem' {α : Type} {l : List α} {k : Nat} (hk : k < l.length) (d : α) : l.getD k d ∈ l := by
 rw [List.getD_eq_getElem?_getD, List.getElem?_eq_getElem hk]; exact List.getElem_mem hk
def GoodW (n : Int) (L : List (List UInt8)) (k : Nat) : Prop := ∀ x ∈ L.take k, numB x = true ∧ 0 ≤ valS x ∧ valS x ≤ n - 1
theorem GoodW.succ {n : Int} {L : List (List UInt8)} {k : Nat} (h : GoodW n L k) (hk : k < L.length) (hx : numB (L.getD k []) = true ∧ 0 ≤ valS (L.getD k []) ∧ valS (L.getD k []) ≤ n - 1) : GoodW n L (k + 1) := fun x hm => by
 rw [List.take_succ_eq_append_getElem hk, List.mem_append, List.mem_singleton] at hm
 rcases hm with hm | rfl
 ·exact h x hm
 ·rw [List.getD_eq_getElem?_getD, List.getElem?_eq_getElem hk] at hx
  exact hx
set_option maxHeartbeats 4000000 in
theorem specParseRequests_any (n : Int) (s : List UInt8) (w : World) (hs : s.length ≤ 1073741824) :
  Calls Tryz.prog 39 #[.int .i64 n, .string ⟨s.toArray⟩] w (Ret2 fun v0 v1 w' => v1 = .bool (parR n s).isSome ∧ OI w.heap.size w' v0 ((parR n s).getD []) ∧ Chg No w w') := by
 have k0 := (Chg.refl No w).alloc (.cells #[] 3)
 have o0 : OI w.heap.size (w.alloc (.cells #[] 3)) (.slice (some ⟨w.heap.size, 0, none⟩) 0 0) [] := OI.zero (Nat.le_refl _)
 cases hit : inB n 1 8 with
 | false =>
  have HF : Hid (parR n s = none) := Lib.hid (parR_len (.inl (fun h => by rw [inB_iff.2 h] at hit; cases hit)))
  have HI := Lib.hid hit
  clear hit
  go_enter Tryz.func39, Tryz.ntmps39
  go_wp2_with (go_at_call 54; refine (l3Items_any _ _).mono ?_; rintro e w' ⟨rfl, rfl⟩; rw [HI.out])
  go_ret2
  exact ⟨_, _, rfl, by rw [HF.out]; rfl, by rw [HF.out]; exact o0, k0⟩
 | true =>
  have HI := Lib.hid hit
  have hn := inB_iff.1 hit
  clear hit
  by_cases hl : 120 < s.length
  ·have HF : Hid (parR n s = none) := Lib.hid (parR_len (.inr hl))
   have hli : (120 : Int) < (s.length : Int) := by omega
   go_enter Tryz.func39, Tryz.ntmps39
   go_wp2_with (go_at_call 54; refine (l3Items_any _ _).mono ?_; rintro e w' ⟨rfl, rfl⟩; rw [HI.out])
   go_ret2
   exact ⟨_, _, rfl, by rw [HF.out]; rfl, by rw [HF.out]; exact o0, k0⟩
  ·have hli : ¬ (120 : Int) < (s.length : Int) := by omega
   by_cases hno : s = noneT
   ·subst hno
    have HF : Hid (parR n noneT = some []) := Lib.hid (by rw [parR_no, HI.out]; rfl)
    go_enter Tryz.func39, Tryz.ntmps39
    go_wp2_with (go_at_call 54; refine (l3Items_any _ _).mono ?_; rintro e w' ⟨rfl, rfl⟩; rw [HI.out])
    go_ret2
    exact ⟨_, _, rfl, by rw [HF.out]; rfl, by rw [HF.out]; exact o0, k0⟩
   ·have hnq : (s == [110, 111, 110, 101]) = false := beq_eq_false_iff_ne.2 hno
    have HNO := Lib.hid hno
    have q1 := Lib.hid (fun W => l1Split_all s 32 W hs)
    obtain ⟨L, hL⟩ : ∃ L, splitC 32 s = L := ⟨_, rfl⟩
    rw [hL] at q1
    have HLL := Lib.hid hL
    have hLn : L.length ≤ 121 := by rw [← hL]; have := split_len 32 s; omega
    clear hno hL
    go_enter Tryz.func39, Tryz.ntmps39
    go_wp2_with (first | (go_at_call 54; refine (l3Items_any _ _).mono ?_; rintro e w' ⟨rfl, rfl⟩; rw [HI.out]) | (go_at_call 37; refine (q1.out _).mono ?_; rintro e w1 ⟨g, m, cap, rfl, hsr, hk1⟩))
    obtain ⟨hm0, hg, hmc, hcm, hwa⟩ := hsr.words
    have o1 := o0.keep hk1
    have kk := k0.keep hk1
    have hgw : w.heap.size < g := by have := hg; simp at this; omega
    have hm121 : m ≤ 121 := by omega
    clear hsr o0 k0 hm0 hg hLn
    go_loopw [6, 8] (fun o i wr => ∃ k : Nat, k ≤ m ∧ i = .int .i64 k ∧ OI w.heap.size wr o ((L.take k).map valS) ∧ ¬ own o g ∧ WordsAt wr g m L ∧ Hid (GoodW n L k) ∧ Chg No w wr) (fun _ i _ => m - (intOf i).toNat)
    case atStart => exact ⟨0, Nat.zero_le _, rfl, o1, fun e => by rw [own_slice] at e; omega, hwa, Lib.hid (fun x hx => by simp at hx), kk⟩
    case round =>
     clear o1 kk hwa hk1
     obtain ⟨k, hk, rfl, ho, hog, hwa, HG, hch⟩ := hrel
     have hszz := hch.size
     by_cases hlt : k < m
     ·have hck := hwa.2.2 k hlt
      have hkl : k < L.length := by rw [hwa.1]; exact hlt
      have hxm := getD_mem' hkl []
      have hxl : (L.getD k []).length ≤ s.length := split_part_len 32 s _ (by rw [HLL.out]; exact hxm)
      have HW : Hid ((L.take (k + 1)).map valS = (L.take k).map valS ++ [valS (L.getD k [])]) := Lib.hid (by rw [← HLL.out]; exact wv_snoc s k (by rw [HLL.out]; exact hkl))
      have HSU := Lib.hid (HG.out.succ hkl)
      have HBAD : Hid (isNum (L.getD k []) = false ∨ ¬ (0 ≤ valS (L.getD k []) ∧ valS (L.getD k []) ≤ n - 1) → parR n s = none) := Lib.hid (fun h => parR_word HNO.out (by rw [HLL.out]; exact hxm) h)
      obtain ⟨x, hx⟩ : ∃ x, L.getD k [] = x := ⟨_, rfl⟩
      rw [hx] at hck hxl HW HSU HBAD
      have q := Lib.hid (fun W => l1Read_any x W (by omega))
      clear hxm hx
      obtain ⟨l, hl0⟩ : ∃ l, (L.take k).map valS = l := ⟨_, rfl⟩
      have hlk : l.length ≤ k := by rw [← hl0]; simp; omega
      rw [hl0] at ho HW
      clear hl0
      obtain ⟨oa, oq, rfl, hov⟩ := ho.view
      clear hov
      have hw1 : IntKind.i64.wrap (n - 1) = n - 1 := IntWalk.i64_in _ (by omega)
      cases hnb : numB x with
      | false =>
       have HF : Hid (parR n s = none) := Lib.hid (by
        cases hin : isNum x with
        | false => exact HBAD.out (.inl hin)
        | true =>
         refine HBAD.out (.inr (fun h => ?_))
         unfold numB at hnb
         rw [hin, inB_iff.2 (by omega)] at hnb
         cases hnb)
       rw [hnb] at q
       clear hnb
       go_wp2_with (go_at_call 38; refine (q.out _).mono ?_; rintro e w2 ⟨rfl, m2, rfl⟩)
       go_ret2
       refine ⟨_, _, rfl, by rw [HF.out]; rfl, ?_, (hch.trans (drewN_chg' _ m2)).alloc _⟩
       rw [HF.out]
       exact OI.zero (by simp; omega)
      | true =>
       have hrd : rdN x = valS x := by unfold rdN; rw [hnb]; rfl
       rw [hnb, hrd] at q
       obtain ⟨z, hz⟩ : ∃ z, valS x = z := ⟨_, rfl⟩
       rw [hz] at q HW HSU HBAD
       by_cases hzi : 0 ≤ z ∧ z ≤ n - 1
       ·have hin : inB z 0 (n - 1) = true := inB_iff.2 hzi
        have HSU2 := Lib.hid (HSU.out ⟨hnb, hzi.1, hzi.2⟩)
        have HIN := Lib.hid hin
        clear hnb hrd hz hin hzi HSU HBAD
        go_wp2_with (first | (go_at_call 38; refine (q.out _).mono ?_; rintro e w2 ⟨rfl, m2, rfl⟩; have ho2 := ho.keep (drewN_chg' wr m2)) | (go_at_call 80; refine (l1In_any _ _ _ _).mono ?_; rintro e w' ⟨rfl, rfl⟩; rw [HIN.out]) | (at_builtin; refine wapp1 rfl (.tmp 50) (.tmp 52) rfl ho2 rfl rfl (by omega) (by simp; omega) ?_))
        intro v3 w3 o3 k3 f3
        obtain ⟨a3, q3, rfl, hv3⟩ := o3.view
        clear hv3
        have hch3 := (hch.trans (drewN_chg' wr m2)).step k3 (fun q hq hl => by have := (ho.lt q hq).1; omega)
        have hwa3 := (hwa.step (drewN_chg' wr m2) (fun e => e)).step k3 hog
        have hog3 : ¬ own (.slice a3 (l ++ [z]).length q3) g := fun e => by
         rcases f3 g e with h | h
         ·exact hog h
         ·have := hwa.2.1
          have h' : wr.heap.size ≤ g := h
          omega
        go_wp2_with fail
        refine ⟨⟨k + 1, by omega, by go_num, by rw [HW.out]; exact o3, hog3, hwa3, HSU2, hch3⟩, by simp [intOf]; omega⟩
       ·have HF : Hid (parR n s = none) := Lib.hid (HBAD.out (.inr hzi))
        have HIN : Hid (inB z 0 (n - 1) = false) := Lib.hid (by
         cases h : inB z 0 (n - 1) with
         | false => rfl
         | true => exact absurd (inB_iff.1 h) hzi)
        clear hnb hrd hz hzi HSU HBAD
        go_wp2_with (first | (go_at_call 38; refine (q.out _).mono ?_; rintro e w2 ⟨rfl, m2, rfl⟩) | (go_at_call 80; refine (l1In_any _ _ _ _).mono ?_; rintro e w' ⟨rfl, rfl⟩; rw [HIN.out]))
        go_ret2
        refine ⟨_, _, rfl, by rw [HF.out]; rfl, ?_, (hch.trans (drewN_chg' _ m2)).alloc _⟩
        rw [HF.out]
        exact OI.zero (by simp; omega)
     ·have hmk : k = L.length := by have := hwa.1; omega
      have HWL : Hid ((L.take k).map valS = wordsV s) := Lib.hid (by rw [hmk, List.take_length, ← HLL.out]; rfl)
      have hall : ∀ x ∈ splitC 32 s, numB x = true ∧ 0 ≤ valS x ∧ valS x ≤ n - 1 := fun x hx => HG.out x (by rw [hmk, List.take_length, ← HLL.out]; exact hx)
      have HPR := parR_words (n := n) HNO.out (fun x hx => (numB_parts (hall x hx).1).1)
      have HBE : belowB n (wordsV s) = true := by
       unfold belowB
       rw [List.all_eq_true]
       intro z hz
       obtain ⟨x, hx, rfl⟩ := List.mem_map.1 hz
       exact inB_iff.2 (hall x hx).2
      have hne : wordsV s ≠ [] := fun e => splitC_ne 32 s (List.map_eq_nil_iff.1 e)
      have HT : Hid (reqT (wordsV s) = s) := Lib.hid (by rw [reqT_ne hne]; exact words_sp (fun x hx => (numB_parts (hall x hx).1).1))
      have hmid : Mid (wordsV s) := fun z hz => by
       obtain ⟨x, hx, rfl⟩ := List.mem_map.1 hz
       have := (numB_parts (hall x hx).1).2
       omega
      rw [HWL.out] at ho
      obtain ⟨l, hl0⟩ : ∃ l, wordsV s = l := ⟨_, rfl⟩
      rw [hl0] at ho HPR HBE HT hmid
      have HO := Lib.hid ho
      have HRI : RI No wr _ l := ho.read (fun _ _ e => e)
      have q3 := Lib.hid (fun v (h : RI No wr v l) => l3Text_any v l wr h hmid)
      rw [HT.out] at q3
      obtain ⟨oa, oq, rfl, hov⟩ := ho.view
      have q4 := Lib.hid (q3.out _ HRI)
      obtain ⟨n1, hn1⟩ : ∃ n1, l.length = n1 := ⟨_, rfl⟩
      rw [hn1] at q4 HO ⊢
      clear hov ho HRI hne hmid hall
      by_cases h60 : 60 < n1
      ·have HF : Hid (parR n s = none) := Lib.hid (by
        rw [HPR]
        have : reqB n l = false := by unfold reqB; rw [hn1, decide_eq_false (by omega)]; simp
        rw [this]; rfl)
       have h60i : (60 : Int) < (n1 : Int) := by omega
       clear HPR HBE hn1 hl0
       go_wp2_with fail
       go_ret2
       refine ⟨_, _, rfl, by rw [HF.out]; rfl, ?_, hch.alloc _⟩
       rw [HF.out]
       exact OI.zero (by omega)
      ·have HF : Hid (parR n s = some l) := Lib.hid (by
        rw [HPR]
        have : reqB n l = true := by unfold reqB; rw [HI.out, HBE, hn1, decide_eq_true (by omega)]; rfl
        rw [this]; rfl)
       have h60i : ¬ (60 : Int) < (n1 : Int) := by omega
       clear HPR HBE hn1 hl0
       go_wp2_with (go_at_call 73; refine (q4.out).mono ?_; rintro e w3 ⟨rfl, m3, rfl⟩)
       go_ret2
       refine ⟨_, _, rfl, by rw [HF.out]; rfl, ?_, hch.trans (drewN_chg' _ m3)⟩
       rw [HF.out]
       exact HO.out.keep (drewN_chg' _ m3)
end Go.Proofs.YtdgcohoneijleaaGreatDoor
