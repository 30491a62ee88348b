import Derived.Test.YtndhijckbponkaaGreatDoorIj
/- requests read by the program -/
namespace Go.Proofs.YtndhijckbponkaaGreatDoor
open Go.RowKit

/-- all words are numerals -/
def okL (s : List UInt8) : Bool := (splitC 32 s).all decM
def NumW (L : List (List UInt8)) (k : Nat) : Prop := ∀ x ∈ L.take k, decM x = true
theorem NumW.succ {L : List (List UInt8)} {k : Nat} (h : NumW L k) (hk : k < L.length) (hx : decM (L.getD k []) = true) : NumW L (k + 1) := fun x hm => by
  rw [List.take_succ_eq_append_getElem hk, List.mem_append, List.mem_singleton] at hm
  rcases hm with hm | rfl
  · exact h x hm
  · rw [List.getD_eq_getElem?_getD, List.getElem?_eq_getElem hk] at hx
    exact hx
def lisV (s : List UInt8) : List Int := if okL s then wordsV s else []
set_option maxRecDepth 100000 in
set_option maxHeartbeats 4000000 in
theorem readList_any (s : List UInt8) (w : World) (hs : s.length ≤ 1073741824) (hw : LayE w) :
    Calls Tryz.prog 87 #[.string ⟨s.toArray⟩] w (Ret2 fun v0 v1 w' => v1 = .bool (okL s) ∧ OI w.heap.size w' v0 (lisV s) ∧ Chg No w w') := by
  have k0 := (Chg.refl No w).alloc (.cells #[] 3)
  have o0 : OI w.heap.size (w.alloc (.cells #[] 3)) (.slice (some ⟨w.heap.size, 0, none⟩) 0 0) [] := OI.zero (Nat.le_refl _)
  have q1 := Lib.hid (fun W => splitAt_all s 32 W hs)
  obtain ⟨L, hL⟩ : ∃ L, splitC 32 s = L := ⟨_, rfl⟩
  rw [hL] at q1
  have HLL := Lib.hid hL
  have hLn : L.length ≤ 1073741825 := by rw [← hL]; have := split_len 32 s; omega
  clear hL
  go_enter Tryz.func87, Tryz.ntmps87
  go_wp2_with (go_at_call 134; refine (q1.out _).mono ?_; rintro e w1 ⟨g, m, cap, rfl, hsr, hk1⟩)
  obtain ⟨hm0, hg, hmc, hcm, hwa⟩ := hsr.words
  have o1 := o0.keep hk1
  have kk := k0.keep hk1
  have hgw : w.heap.size < g := by have := hg; simp at this; omega
  have hm121 : m ≤ 1073741825 := by omega
  clear hsr o0 k0 hm0 hg hLn
  go_loopw [4, 13] (fun o i wr => ∃ k : Nat, k ≤ m ∧ i = .int .i64 k ∧ OI w.heap.size wr o ((L.take k).map valS) ∧ ¬ own o g ∧ WordsAt wr g m L ∧ Hid (NumW L k) ∧ Chg No w wr) (fun _ i _ => m - (intOf i).toNat)
  case atStart => exact ⟨0, Nat.zero_le _, rfl, o1, fun e => by rw [own_slice] at e; omega, hwa, Lib.hid (fun x hx => by simp at hx), kk⟩
  case round =>
    clear o1 kk hwa hk1
    obtain ⟨k, hk, rfl, ho, hog, hwa, HG, hch⟩ := hrel
    have hszz := hch.size
    by_cases hlt : k < m
    · have hck := hwa.2.2 k hlt
      have hkl : k < L.length := by rw [hwa.1]; exact hlt
      have hxm := getD_mem' hkl []
      have hxl : (L.getD k []).length ≤ s.length := split_part_len 32 s _ (by rw [HLL.out]; exact hxm)
      have HW : Hid ((L.take (k + 1)).map valS = (L.take k).map valS ++ [valS (L.getD k [])]) := Lib.hid (by rw [← HLL.out]; exact wv_snoc s k (by rw [HLL.out]; exact hkl))
      have HSU := Lib.hid (HG.out.succ hkl)
      have HBAD : Hid (decM (L.getD k []) = false → okL s = false) := Lib.hid (fun h => by
        unfold okL
        rw [HLL.out, List.all_eq_false]
        exact ⟨_, hxm, by rw [h]; decide⟩)
      obtain ⟨x, hx⟩ : ∃ x, L.getD k [] = x := ⟨_, rfl⟩
      rw [hx] at hck hxl HW HSU HBAD
      have q := Lib.hid (readDec_any x wr (by omega) (hw.keep hch))
      clear hxm hx
      obtain ⟨l, hl0⟩ : ∃ l, (L.take k).map valS = l := ⟨_, rfl⟩
      have hlk : l.length ≤ k := by rw [← hl0]; simp; omega
      rw [hl0] at ho HW
      clear hl0
      obtain ⟨oa, oq, rfl, hov⟩ := ho.view
      clear hov
      cases hnb : decM x with
      | false =>
        have HF := Lib.hid (HBAD.out hnb)
        have HV : Hid (lisV s = []) := Lib.hid (by unfold lisV; rw [HF.out]; rfl)
        rw [hnb] at q
        clear hnb
        go_wp2_with (go_at_call 42; refine q.out.mono ?_; rintro e w2 ⟨rfl, hk2⟩)
        go_ret2
        refine ⟨_, _, rfl, by rw [HF.out]; rfl, ?_, hch.trans hk2⟩
        rw [HV.out]
        exact OI.nil _ _
      | true =>
        have hrd : decN x = valS x := by unfold decN; rw [hnb]; rfl
        rw [hnb, hrd] at q
        obtain ⟨z, hz⟩ : ∃ z, valS x = z := ⟨_, rfl⟩
        rw [hz] at q HW
        have HSU2 := Lib.hid (HSU.out hnb)
        clear hnb hrd hz HSU HBAD
        go_wp2_with (first | (go_at_call 42; refine q.out.mono ?_; rintro e w2 ⟨rfl, hk2⟩; have ho2 := ho.keep hk2; have hsz2 := hk2.size) | (at_builtin; refine wapp1 rfl (.tmp 24) (.tmp 26) rfl ho2 rfl rfl (by omega) (by omega) ?_))
        intro v3 w3 o3 k3 f3
        obtain ⟨a3, q3, rfl, hv3⟩ := o3.view
        clear hv3
        have hch3 := (hch.trans hk2).step k3 (fun q hq hl => by have := (ho.lt q hq).1; omega)
        have hwa3 := (hwa.step hk2 (fun e => e)).step k3 hog
        have hog3 : ¬ own (.slice a3 (l ++ [z]).length q3) g := fun e => by
          rcases f3 g e with h | h
          · exact hog h
          · have := hwa.2.1
            omega
        go_wp2_with fail
        refine ⟨⟨k + 1, by omega, by go_num, by rw [HW.out]; exact o3, hog3, hwa3, HSU2, hch3⟩, by simp [intOf]; omega⟩
    · have hmk : k = L.length := by have := hwa.1; omega
      have HF : Hid (okL s = true) := Lib.hid (by
        unfold okL
        rw [HLL.out, List.all_eq_true]
        intro x hx
        exact HG.out x (by rw [hmk, List.take_length]; exact hx))
      have HV : Hid (lisV s = (L.take k).map valS) := Lib.hid (by unfold lisV; rw [HF.out, hmk, List.take_length, ← HLL.out]; rfl)
      rw [← HV.out] at ho
      go_wp2_with fail
      go_ret2
      exact ⟨_, _, rfl, by rw [HF.out]; rfl, ho, hch⟩

theorem okL_bad {n : Int} {s : List UInt8} (hs : s ≠ noneT) (h : okL s = false) : parR n s = none := parR_none fun l h1 h2 => by
  obtain ⟨a, b, c⟩ := reqB_parts h1
  obtain ⟨_, e⟩ := req_words h2 hs
  have : okL s = true := by
    unfold okL
    rw [e, List.all_eq_true]
    intro x hx
    obtain ⟨v, hv, rfl⟩ := List.mem_map.1 hx
    have := c v hv
    unfold decM
    rw [isNum_itoa, valS_itoa, inB_iff.2 (by omega)]; rfl
  rw [this] at h; cases h
theorem okL_good {n : Int} {s : List UInt8} (hs : s ≠ noneT) (h : okL s = true) : parR n s = if reqB n (wordsV s) then some (wordsV s) else none :=
  parR_words hs (fun x hx => (decM_parts (by unfold okL at h; rw [List.all_eq_true] at h; exact h x hx)).1)
set_option maxRecDepth 100000 in
set_option maxHeartbeats 4000000 in
theorem implParseRequests_any (n : Int) (s : List UInt8) (w : World) (hs : s.length ≤ 1073741824) (hw : LayE w) :
    Calls Tryz.prog 43 #[.int .i64 n, .string ⟨s.toArray⟩] w (Ret2 fun v0 v1 w' => v1 = .bool (parR n s).isSome ∧ OI w.heap.size w' v0 ((parR n s).getD []) ∧ Chg No w w') := by
  by_cases hno : s = noneT
  · subst hno
    have q := Lib.hid (fun W => isItems_any n W)
    have HF : Hid ((parR n noneT).isSome = inB n 1 8 ∧ (parR n noneT).getD [] = []) := Lib.hid (by
      rw [parR_no]
      cases inB n 1 8 <;> exact ⟨rfl, rfl⟩)
    rw [HF.out.1, HF.out.2]
    obtain ⟨b, hb⟩ : ∃ b, inB n 1 8 = b := ⟨_, rfl⟩
    rw [hb] at q ⊢
    go_enter Tryz.func43, Tryz.ntmps43
    go_wp2_with (go_at_call 53; refine (q.out _).mono ?_; rintro e w' ⟨rfl, rfl⟩)
    go_ret2
    exact ⟨_, _, rfl, rfl, OI.nil _ _, Chg.refl No _⟩
  · have hnq : (s == [110, 111, 110, 101]) = false := beq_eq_false_iff_ne.2 hno
    have q1 := Lib.hid (readList_any s w hs hw)
    cases hok : okL s with
    | false =>
      have HF := Lib.hid (okL_bad (n := n) hno hok)
      rw [hok] at q1
      clear hno hok
      go_enter Tryz.func43, Tryz.ntmps43
      go_wp2_with (go_at_call 87; refine q1.out.mono ?_; rintro e w1 ⟨v0, _, rfl, rfl, ho, hk1⟩)
      go_ret2
      exact ⟨_, _, rfl, by rw [HF.out]; rfl, by rw [HF.out]; exact OI.nil _ _, hk1⟩
    | true =>
      have HP := okL_good (n := n) hno hok
      have hlv : lisV s = wordsV s := by unfold lisV; rw [hok]; rfl
      rw [hok, hlv] at q1
      obtain ⟨l, hl⟩ : ∃ l, wordsV s = l := ⟨_, rfl⟩
      rw [hl] at HP q1
      clear hno hok hlv hl
      cases hrb : reqB n l with
      | true =>
        have HF : Hid (parR n s = some l) := Lib.hid (by rw [HP, hrb]; rfl)
        have HR := Lib.hid hrb
        clear HP hrb
        go_enter Tryz.func43, Tryz.ntmps43
        go_wp2_with (first | (go_at_call 87; refine q1.out.mono ?_; rintro e w1 ⟨v0, _, rfl, rfl, ho, hk1⟩; obtain ⟨oa, oq, rfl, hov⟩ := ho.view; clear hov; have HO := Lib.hid (And.intro ho (ho.read (A := No) (fun _ _ e => e)))) | (go_at_call 56; refine (IsRequests_any No _ l n _ HO.out.2).mono ?_; rintro e w2 ⟨_, rfl, rfl, hk2⟩; rw [show (inB n 1 8 && decide (l.length ≤ 60) && belowB n l) = true from HR.out]))
        go_ret2
        exact ⟨_, _, rfl, by rw [HF.out]; rfl, by rw [HF.out]; exact HO.out.1.keep hk2, hk1.trans hk2⟩
      | false =>
        have HF : Hid (parR n s = none) := Lib.hid (by rw [HP, hrb]; rfl)
        have HR := Lib.hid hrb
        clear HP hrb
        go_enter Tryz.func43, Tryz.ntmps43
        go_wp2_with (first | (go_at_call 87; refine q1.out.mono ?_; rintro e w1 ⟨v0, _, rfl, rfl, ho, hk1⟩; obtain ⟨oa, oq, rfl, hov⟩ := ho.view; clear hov; have HO := Lib.hid (And.intro ho (ho.read (A := No) (fun _ _ e => e)))) | (go_at_call 56; refine (IsRequests_any No _ l n _ HO.out.2).mono ?_; rintro e w2 ⟨_, rfl, rfl, hk2⟩; rw [show (inB n 1 8 && decide (l.length ≤ 60) && belowB n l) = false from HR.out]))
        go_ret2
        exact ⟨_, _, rfl, by rw [HF.out]; rfl, by rw [HF.out]; exact OI.nil _ _, hk1.trans hk2⟩
end Go.Proofs.YtndhijckbponkaaGreatDoor
