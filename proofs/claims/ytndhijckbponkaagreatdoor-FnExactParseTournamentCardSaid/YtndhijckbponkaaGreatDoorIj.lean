import Derived.Test.YtndhijckbponkaaGreatDoorIi
/- requests read by both: the walks -/
namespace Go.Proofs.YtndhijckbponkaaGreatDoor
open Go.RowKit

/-- words that stand in a block, and what is known of them -/
def WordsAt (w : World) (g n : Nat) (L : List (List UInt8)) : Prop := L.length = n ∧ g < w.heap.size ∧ ∀ i, i < n → w.cell? ⟨g, i, none⟩ = some (.string ⟨(L.getD i []).toArray⟩)
theorem WordsAt.step {w w' : World} {g n : Nat} {L : List (List UInt8)} {S : Nat → Prop} (h : WordsAt w g n L) (hc : Chg S w w') (hS : ¬ S g) : WordsAt w' g n L :=
  ⟨h.1, Nat.lt_of_lt_of_le h.2.1 hc.size, fun i hi => (hc.cellD g i h.2.1 hS).trans (h.2.2 i hi)⟩
theorem SRow.words {base : Nat} {w : World} {g n cap : Nat} {L : List (List UInt8)} (h : SRow base w (.slice (some ⟨g, 0, none⟩) n cap) L) : n = L.length ∧ base ≤ g ∧ n ≤ cap ∧ cap ≤ 9223372036854775807 ∧ WordsAt w g n L := by
  have ha := OS.at h
  obtain ⟨h1, h2, h3, h4, h5, h6, h7⟩ := ha
  have h5' : n = L.length := by simpa using h5
  subst h5'
  refine ⟨rfl, h3, h6, h7, rfl, h4, fun i hi => ?_⟩
  rw [h1 i (by simpa using hi)]
  simp [List.getD_eq_getElem?_getD, sv, hi]
theorem wv_snoc (s : List UInt8) (k : Nat) (hk : k < (splitC 32 s).length) : ((splitC 32 s).take (k + 1)).map valS = ((splitC 32 s).take k).map valS ++ [valS ((splitC 32 s).getD k [])] := by
  rw [List.take_succ_eq_append_getElem hk, List.map_append, List.getD_eq_getElem?_getD, List.getElem?_eq_getElem hk]; rfl
theorem split_len (b : UInt8) : ∀ s : List UInt8, (splitC b s).length ≤ s.length + 1
  | [] => by simp [splitC]
  | x :: s => by
    have := split_len b s
    unfold splitC
    split
    · simp; omega
    · split
      · simp
      · rename_i h t e
        rw [e] at this
        simp at this ⊢; omega
theorem split_part_len (b : UInt8) : ∀ (s x : List UInt8), x ∈ splitC b s → x.length ≤ s.length
  | [], x, h => by simp [splitC] at h; simp [h]
  | c :: s, x, h => by
    unfold splitC at h
    by_cases hc : c = b
    · rw [if_pos hc] at h
      rcases List.mem_cons.1 h with rfl | h
      · simp
      · have := split_part_len b s x h; simp; omega
    · rw [if_neg hc] at h
      cases hs : splitC b s with
      | nil => exact absurd hs (splitC_ne b s)
      | cons y t =>
        rw [hs] at h
        simp only [] at h
        rcases List.mem_cons.1 h with rfl | h
        · have := split_part_len b s y (by rw [hs]; simp); simp; omega
        · have := split_part_len b s x (by rw [hs]; exact List.mem_cons_of_mem _ h); simp; omega
theorem getD_mem' {α : Type} {l : List α} {k : Nat} (hk : k < l.length) (d : α) : l.getD k d ∈ l := by
  rw [List.getD_eq_getElem?_getD, List.getElem?_eq_getElem hk]; exact List.getElem_mem hk
/-- all words so far are numerals of items -/
def GoodW (n : Int) (L : List (List UInt8)) (k : Nat) : Prop := ∀ x ∈ L.take k, numB x = true ∧ 0 ≤ valS x ∧ valS x ≤ n - 1
theorem GoodW.succ {n : Int} {L : List (List UInt8)} {k : Nat} (h : GoodW n L k) (hk : k < L.length) (hx : numB (L.getD k []) = true ∧ 0 ≤ valS (L.getD k []) ∧ valS (L.getD k []) ≤ n - 1) : GoodW n L (k + 1) := fun x hm => by
  rw [List.take_succ_eq_append_getElem hk, List.mem_append, List.mem_singleton] at hm
  rcases hm with hm | rfl
  · exact h x hm
  · rw [List.getD_eq_getElem?_getD, List.getElem?_eq_getElem hk] at hx
    exact hx

set_option maxRecDepth 100000 in
set_option maxHeartbeats 4000000 in
theorem specParseRequests_any (n : Int) (s : List UInt8) (w : World) (hs : s.length ≤ 1073741824) :
    Calls Tryz.prog 39 #[.int .i64 n, .string ⟨s.toArray⟩] w (Ret2 fun v0 v1 w' => v1 = .bool (parR n s).isSome ∧ OI w.heap.size w' v0 ((parR n s).getD []) ∧ Chg No w w') := by
  have k0 := (Chg.refl No w).alloc (.cells #[] 3)
  have o0 : OI w.heap.size (w.alloc (.cells #[] 3)) (.slice (some ⟨w.heap.size, 0, none⟩) 0 0) [] := OI.zero (Nat.le_refl _)
  cases hit : inB n 1 8 with
  | false =>
    have HF : Hid (parR n s = none) := Lib.hid (parR_len (.inl (fun h => by rw [inB_iff.2 h] at hit; cases hit)))
    have HI := Lib.hid hit
    clear hit
    go_enter Tryz.func39, Tryz.ntmps39
    go_wp2_with (go_at_call 54; refine (l3Items_any _ _).mono ?_; rintro e w' ⟨rfl, rfl⟩; rw [HI.out])
    go_ret2
    exact ⟨_, _, rfl, by rw [HF.out]; rfl, by rw [HF.out]; exact o0, k0⟩
  | true =>
    have HI := Lib.hid hit
    have hn := inB_iff.1 hit
    clear hit
    by_cases hl : 120 < s.length
    · have HF : Hid (parR n s = none) := Lib.hid (parR_len (.inr hl))
      have hli : (120 : Int) < (s.length : Int) := by omega
      go_enter Tryz.func39, Tryz.ntmps39
      go_wp2_with (go_at_call 54; refine (l3Items_any _ _).mono ?_; rintro e w' ⟨rfl, rfl⟩; rw [HI.out])
      go_ret2
      exact ⟨_, _, rfl, by rw [HF.out]; rfl, by rw [HF.out]; exact o0, k0⟩
    · have hli : ¬ (120 : Int) < (s.length : Int) := by omega
      by_cases hno : s = noneT
      · subst hno
        have HF : Hid (parR n noneT = some []) := Lib.hid (by rw [parR_no, HI.out]; rfl)
        go_enter Tryz.func39, Tryz.ntmps39
        go_wp2_with (go_at_call 54; refine (l3Items_any _ _).mono ?_; rintro e w' ⟨rfl, rfl⟩; rw [HI.out])
        go_ret2
        exact ⟨_, _, rfl, by rw [HF.out]; rfl, by rw [HF.out]; exact o0, k0⟩
      · have hnq : (s == [110, 111, 110, 101]) = false := beq_eq_false_iff_ne.2 hno
        have HNO := Lib.hid hno
        have q1 := Lib.hid (fun W => l1Split_all s 32 W hs)
        obtain ⟨L, hL⟩ : ∃ L, splitC 32 s = L := ⟨_, rfl⟩
        rw [hL] at q1
        have HLL := Lib.hid hL
        have hLn : L.length ≤ 121 := by rw [← hL]; have := split_len 32 s; omega
        clear hno hL
        go_enter Tryz.func39, Tryz.ntmps39
        go_wp2_with (first | (go_at_call 54; refine (l3Items_any _ _).mono ?_; rintro e w' ⟨rfl, rfl⟩; rw [HI.out]) | (go_at_call 37; refine (q1.out _).mono ?_; rintro e w1 ⟨g, m, cap, rfl, hsr, hk1⟩))
        obtain ⟨hm0, hg, hmc, hcm, hwa⟩ := hsr.words
        have o1 := o0.keep hk1
        have kk := k0.keep hk1
        have hgw : w.heap.size < g := by have := hg; simp at this; omega
        have hm121 : m ≤ 121 := by omega
        clear hsr o0 k0 hm0 hg hLn
        go_loopw [6, 8] (fun o i wr => ∃ k : Nat, k ≤ m ∧ i = .int .i64 k ∧ OI w.heap.size wr o ((L.take k).map valS) ∧ ¬ own o g ∧ WordsAt wr g m L ∧ Hid (GoodW n L k) ∧ Chg No w wr) (fun _ i _ => m - (intOf i).toNat)
        case atStart => exact ⟨0, Nat.zero_le _, rfl, o1, fun e => by rw [own_slice] at e; omega, hwa, Lib.hid (fun x hx => by simp at hx), kk⟩
        case round =>
          clear o1 kk hwa hk1
          obtain ⟨k, hk, rfl, ho, hog, hwa, HG, hch⟩ := hrel
          have hszz := hch.size
          by_cases hlt : k < m
          · have hck := hwa.2.2 k hlt
            have hkl : k < L.length := by rw [hwa.1]; exact hlt
            have hxm := getD_mem' hkl []
            have hxl : (L.getD k []).length ≤ s.length := split_part_len 32 s _ (by rw [HLL.out]; exact hxm)
            have HW : Hid ((L.take (k + 1)).map valS = (L.take k).map valS ++ [valS (L.getD k [])]) := Lib.hid (by rw [← HLL.out]; exact wv_snoc s k (by rw [HLL.out]; exact hkl))
            have HSU := Lib.hid (HG.out.succ hkl)
            have HBAD : Hid (isNum (L.getD k []) = false ∨ ¬ (0 ≤ valS (L.getD k []) ∧ valS (L.getD k []) ≤ n - 1) → parR n s = none) := Lib.hid (fun h => parR_word HNO.out (by rw [HLL.out]; exact hxm) h)
            obtain ⟨x, hx⟩ : ∃ x, L.getD k [] = x := ⟨_, rfl⟩
            rw [hx] at hck hxl HW HSU HBAD
            have q := Lib.hid (fun W => l1Read_any x W (by omega))
            clear hxm hx
            obtain ⟨l, hl0⟩ : ∃ l, (L.take k).map valS = l := ⟨_, rfl⟩
            have hlk : l.length ≤ k := by rw [← hl0]; simp; omega
            rw [hl0] at ho HW
            clear hl0
            obtain ⟨oa, oq, rfl, hov⟩ := ho.view
            clear hov
            have hw1 : IntKind.i64.wrap (n - 1) = n - 1 := IntWalk.i64_in _ (by omega)
            cases hnb : numB x with
            | false =>
              have HF : Hid (parR n s = none) := Lib.hid (by
                cases hin : isNum x with
                | false => exact HBAD.out (.inl hin)
                | true =>
                  refine HBAD.out (.inr (fun h => ?_))
                  unfold numB at hnb
                  rw [hin, inB_iff.2 (by omega)] at hnb
                  cases hnb)
              rw [hnb] at q
              clear hnb
              go_wp2_with (go_at_call 38; refine (q.out _).mono ?_; rintro e w2 ⟨rfl, m2, rfl⟩)
              go_ret2
              refine ⟨_, _, rfl, by rw [HF.out]; rfl, ?_, (hch.trans (drewN_chg' _ m2)).alloc _⟩
              rw [HF.out]
              exact OI.zero (by simp; omega)
            | true =>
              have hrd : rdN x = valS x := by unfold rdN; rw [hnb]; rfl
              rw [hnb, hrd] at q
              obtain ⟨z, hz⟩ : ∃ z, valS x = z := ⟨_, rfl⟩
              rw [hz] at q HW HSU HBAD
              by_cases hzi : 0 ≤ z ∧ z ≤ n - 1
              · have hin : inB z 0 (n - 1) = true := inB_iff.2 hzi
                have HSU2 := Lib.hid (HSU.out ⟨hnb, hzi.1, hzi.2⟩)
                have HIN := Lib.hid hin
                clear hnb hrd hz hin hzi HSU HBAD
                go_wp2_with (first | (go_at_call 38; refine (q.out _).mono ?_; rintro e w2 ⟨rfl, m2, rfl⟩; have ho2 := ho.keep (drewN_chg' wr m2)) | (go_at_call 80; refine (l1In_any _ _ _ _).mono ?_; rintro e w' ⟨rfl, rfl⟩; rw [HIN.out]) | (at_builtin; refine wapp1 rfl (.tmp 50) (.tmp 52) rfl ho2 rfl rfl (by omega) (by simp; omega) ?_))
                intro v3 w3 o3 k3 f3
                obtain ⟨a3, q3, rfl, hv3⟩ := o3.view
                clear hv3
                have hch3 := (hch.trans (drewN_chg' wr m2)).step k3 (fun q hq hl => by have := (ho.lt q hq).1; omega)
                have hwa3 := (hwa.step (drewN_chg' wr m2) (fun e => e)).step k3 hog
                have hog3 : ¬ own (.slice a3 (l ++ [z]).length q3) g := fun e => by
                  rcases f3 g e with h | h
                  · exact hog h
                  · have := hwa.2.1
                    have h' : wr.heap.size ≤ g := h
                    omega
                go_wp2_with fail
                refine ⟨⟨k + 1, by omega, by go_num, by rw [HW.out]; exact o3, hog3, hwa3, HSU2, hch3⟩, by simp [intOf]; omega⟩
              · have HF : Hid (parR n s = none) := Lib.hid (HBAD.out (.inr hzi))
                have HIN : Hid (inB z 0 (n - 1) = false) := Lib.hid (by
                  cases h : inB z 0 (n - 1) with
                  | false => rfl
                  | true => exact absurd (inB_iff.1 h) hzi)
                clear hnb hrd hz hzi HSU HBAD
                go_wp2_with (first | (go_at_call 38; refine (q.out _).mono ?_; rintro e w2 ⟨rfl, m2, rfl⟩) | (go_at_call 80; refine (l1In_any _ _ _ _).mono ?_; rintro e w' ⟨rfl, rfl⟩; rw [HIN.out]))
                go_ret2
                refine ⟨_, _, rfl, by rw [HF.out]; rfl, ?_, (hch.trans (drewN_chg' _ m2)).alloc _⟩
                rw [HF.out]
                exact OI.zero (by simp; omega)
          · have hmk : k = L.length := by have := hwa.1; omega
            have HWL : Hid ((L.take k).map valS = wordsV s) := Lib.hid (by rw [hmk, List.take_length, ← HLL.out]; rfl)
            have hall : ∀ x ∈ splitC 32 s, numB x = true ∧ 0 ≤ valS x ∧ valS x ≤ n - 1 := fun x hx => HG.out x (by rw [hmk, List.take_length, ← HLL.out]; exact hx)
            have HPR := parR_words (n := n) HNO.out (fun x hx => (numB_parts (hall x hx).1).1)
            have HBE : belowB n (wordsV s) = true := by
              unfold belowB
              rw [List.all_eq_true]
              intro z hz
              obtain ⟨x, hx, rfl⟩ := List.mem_map.1 hz
              exact inB_iff.2 (hall x hx).2
            have hne : wordsV s ≠ [] := fun e => splitC_ne 32 s (List.map_eq_nil_iff.1 e)
            have HT : Hid (reqT (wordsV s) = s) := Lib.hid (by rw [reqT_ne hne]; exact words_sp (fun x hx => (numB_parts (hall x hx).1).1))
            have hmid : Mid (wordsV s) := fun z hz => by
              obtain ⟨x, hx, rfl⟩ := List.mem_map.1 hz
              have := (numB_parts (hall x hx).1).2
              omega
            rw [HWL.out] at ho
            obtain ⟨l, hl0⟩ : ∃ l, wordsV s = l := ⟨_, rfl⟩
            rw [hl0] at ho HPR HBE HT hmid
            have HO := Lib.hid ho
            have HRI : RI No wr _ l := ho.read (fun _ _ e => e)
            have q3 := Lib.hid (fun v (h : RI No wr v l) => l3Text_any v l wr h hmid)
            rw [HT.out] at q3
            obtain ⟨oa, oq, rfl, hov⟩ := ho.view
            have q4 := Lib.hid (q3.out _ HRI)
            obtain ⟨n1, hn1⟩ : ∃ n1, l.length = n1 := ⟨_, rfl⟩
            rw [hn1] at q4 HO ⊢
            clear hov ho HRI hne hmid hall
            by_cases h60 : 60 < n1
            · have HF : Hid (parR n s = none) := Lib.hid (by
                rw [HPR]
                have : reqB n l = false := by unfold reqB; rw [hn1, decide_eq_false (by omega)]; simp
                rw [this]; rfl)
              have h60i : (60 : Int) < (n1 : Int) := by omega
              clear HPR HBE hn1 hl0
              go_wp2_with fail
              go_ret2
              refine ⟨_, _, rfl, by rw [HF.out]; rfl, ?_, hch.alloc _⟩
              rw [HF.out]
              exact OI.zero (by omega)
            · have HF : Hid (parR n s = some l) := Lib.hid (by
                rw [HPR]
                have : reqB n l = true := by unfold reqB; rw [HI.out, HBE, hn1, decide_eq_true (by omega)]; rfl
                rw [this]; rfl)
              have h60i : ¬ (60 : Int) < (n1 : Int) := by omega
              clear HPR HBE hn1 hl0
              go_wp2_with (go_at_call 73; refine (q4.out).mono ?_; rintro e w3 ⟨rfl, m3, rfl⟩)
              go_ret2
              refine ⟨_, _, rfl, by rw [HF.out]; rfl, ?_, hch.trans (drewN_chg' _ m3)⟩
              rw [HF.out]
              exact HO.out.keep (drewN_chg' _ m3)
end Go.Proofs.YtndhijckbponkaaGreatDoor
