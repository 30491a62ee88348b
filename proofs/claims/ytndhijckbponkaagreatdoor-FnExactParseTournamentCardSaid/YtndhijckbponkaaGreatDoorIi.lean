import Derived.Test.YtndhijckbponkaaGreatDoorIf
/- numerals read by the program; requests read by both -/
namespace Go.Proofs.YtndhijckbponkaaGreatDoor
open Go.RowKit

/-- what the library's own variables hold: the bound, the powers of ten, the two errors of strconv -/
structure LayE (w : World) : Prop where
  lay : Lay w
  syn : ∃ te pe, w.cell? ⟨1, 0, none⟩ = some (.iface te pe)
  rng : ∃ te pe, w.cell? ⟨2, 0, none⟩ = some (.iface te pe)
theorem LayE.keep {w w' : World} (h : LayE w) (hc : Chg No w w') : LayE w' := by
  refine ⟨h.lay.keep hc, ?_, ?_⟩
  · obtain ⟨te, pe, e⟩ := h.syn
    exact ⟨te, pe, (hc.cellD _ 0 (World.block_lt_of_cell? w _ e) (fun e => e)).trans e⟩
  · obtain ⟨te, pe, e⟩ := h.rng
    exact ⟨te, pe, (hc.cellD _ 0 (World.block_lt_of_cell? w _ e) (fun e => e)).trans e⟩
/-- a numeral that the program reads -/
def decM (s : List UInt8) : Bool := isNum s && inB (valS s) (-9223372036854775808) 9223372036854775807
def decN (s : List UInt8) : Int := if decM s then valS s else 0
theorem decM_parts {s : List UInt8} (h : decM s = true) : isNum s = true ∧ -9223372036854775808 ≤ valS s ∧ valS s ≤ 9223372036854775807 := by
  unfold decM at h
  rw [Bool.and_eq_true, inB_iff] at h
  exact h
theorem decM_atoi {s : List UInt8} (h : decM s = true) : Lib.atoiAll s = .ok (valS s) := by
  obtain ⟨h1, h2, h3⟩ := decM_parts h
  have := atoi_itoa (valS s) h2 h3
  rw [itoa_val h1] at this
  exact this
theorem decZ_any (v : Int) (h0 : -9223372036854775808 ≤ v) (h1 : v ≤ 9223372036854775807) (w : World) (hw : Lay w) :
    Calls Tryz.prog 76 #[.int .i64 v] w fun e w' => e = .returned (.string ⟨(Lib.itoa v).toArray⟩) ∧ Chg No w w' := by
  have HT := Lib.hid hw.tab
  clear hw
  go_enter Tryz.func76, Tryz.ntmps76
  go_wp2_with (go_at_call 122; refine (Tryz.strconv_Itoa _ h0 h1 _ HT.out).mono ?_; rintro e w' ⟨rfl, k, os, rfl⟩)
  go_ret
  exact ⟨rfl, (drewN_chg' w k).trans (chg_grow' _ os)⟩
theorem atoiW (w w' : World) (h : w' = w ∨ ∃ t, w' = Lib.bytesWorld w 5 t) : Chg No w w' := by
  rcases h with rfl | ⟨t, rfl⟩
  · exact Chg.refl No _
  · exact Chg.ofBelow (Lib.bytesWorld_below w 5 t)

set_option maxRecDepth 100000 in
set_option maxHeartbeats 1000000 in
theorem readDec_any (s : List UInt8) (w : World) (hs : s.length ≤ 1073741824) (hw : LayE w) :
    Calls Tryz.prog 42 #[.string ⟨s.toArray⟩] w fun e w' => e = .returned (.tuple #[.int .i64 (decN s), .bool (decM s)]) ∧ Chg No w w' := by
  have hsz : (⟨s.toArray⟩ : ByteArray).size = s.length := by simp [ByteArray.size]
  cases ha : Lib.atoiAll s with
  | ok v =>
    have hb := Lib.atoiAll_bounds ha
    have q1 := Lib.hid (Tryz.strconv_Atoi_ok ⟨s.toArray⟩ (by omega) v ha w)
    have q2 := Lib.hid (fun W h => decZ_any v hb.1 hb.2 W h)
    have HL := Lib.hid hw.lay
    obtain ⟨Z, hZ⟩ : ∃ Z, Lib.itoa v = Z := ⟨_, rfl⟩
    rw [hZ] at q2
    by_cases he : Z = s
    · have hn := isNum_of (hZ.trans he)
      have HM : Hid (decM s = true) := Lib.hid (by unfold decM; rw [hn.1, hn.2, inB_iff.2 hb]; rfl)
      have HN : Hid (decN s = v) := Lib.hid (by unfold decN; rw [HM.out]; exact hn.2)
      have heq : (Z == s) = true := by rw [he]; simp
      clear ha hb hZ hn he hw hsz
      go_enter Tryz.func42, Tryz.ntmps42
      go_wp2_with (first | (go_at_call 86; refine q1.out.mono ?_; rintro e w1 ⟨rfl, hk0⟩; have hk1 := atoiW _ _ hk0; clear hk0) | (go_at_call 76; refine (q2.out _ (HL.out.keep hk1)).mono ?_; rintro e w2 ⟨rfl, hk2⟩))
      go_ret2
      exact ⟨ret2_eq (by rw [HN.out]; rfl) (by rw [HM.out]; rfl), hk1.trans hk2⟩
    · have HM : Hid (decM s = false) := Lib.hid (by
        cases hm : decM s with
        | false => rfl
        | true =>
          have h1 := decM_atoi hm
          rw [ha] at h1
          have h2 : v = valS s := by injection h1
          exact absurd (by rw [← hZ, h2]; exact itoa_val (decM_parts hm).1) he)
      have HN : Hid (decN s = 0) := Lib.hid (by unfold decN; rw [HM.out]; rfl)
      have heq : (Z == s) = false := by simpa using he
      clear ha hb hZ he hw hsz
      go_enter Tryz.func42, Tryz.ntmps42
      go_wp2_with (first | (go_at_call 86; refine q1.out.mono ?_; rintro e w1 ⟨rfl, hk0⟩; have hk1 := atoiW _ _ hk0; clear hk0) | (go_at_call 76; refine (q2.out _ (HL.out.keep hk1)).mono ?_; rintro e w2 ⟨rfl, hk2⟩))
      go_ret2
      exact ⟨ret2_eq (by rw [HN.out]; rfl) (by rw [HM.out]; rfl), hk1.trans hk2⟩
  | range =>
    obtain ⟨te, pe, hv⟩ := hw.rng
    have q1 := Lib.hid (Tryz.strconv_Atoi_range ⟨s.toArray⟩ (by omega) ha (.iface te pe) w hv (.inr ⟨te, pe, rfl⟩))
    have HM : Hid (decM s = false) := Lib.hid (by
      cases hm : decM s with
      | false => rfl
      | true => have h1 := decM_atoi hm; rw [ha] at h1; cases h1)
    have HN : Hid (decN s = 0) := Lib.hid (by unfold decN; rw [HM.out]; rfl)
    clear ha hw hsz hv
    go_enter Tryz.func42, Tryz.ntmps42
    go_wp2_with (go_at_call 86; refine q1.out.mono ?_; rintro e w1 ⟨N, rfl, _, _, hk0⟩; have hk1 := Chg.ofBelow hk0; clear hk0)
    go_ret2
    exact ⟨ret2_eq (by rw [HN.out]; rfl) (by rw [HM.out]; rfl), hk1⟩
  | _ =>
    obtain ⟨te, pe, hv⟩ := hw.syn
    have q1 := Lib.hid (Tryz.strconv_Atoi_syntax ⟨s.toArray⟩ (by omega) ⟨fun v e => (by rw [ha] at e; cases e), fun e => (by rw [ha] at e; cases e)⟩ (.iface te pe) w hv (.inr ⟨te, pe, rfl⟩))
    have HM : Hid (decM s = false) := Lib.hid (by
      cases hm : decM s with
      | false => rfl
      | true => have h1 := decM_atoi hm; rw [ha] at h1; cases h1)
    have HN : Hid (decN s = 0) := Lib.hid (by unfold decN; rw [HM.out]; rfl)
    clear ha hw hsz hv
    go_enter Tryz.func42, Tryz.ntmps42
    go_wp2_with (go_at_call 86; refine q1.out.mono ?_; rintro e w1 ⟨N, rfl, _, _, hk0⟩; have hk1 := Chg.ofBelow hk0; clear hk0)
    go_ret2
    exact ⟨ret2_eq (by rw [HN.out]; rfl) (by rw [HM.out]; rfl), hk1⟩

/-- what is read of words -/
def wordsV (s : List UInt8) : List Int := (splitC 32 s).map valS
theorem sp_len1 : ∀ (l : List Int), (∀ x ∈ l, 0 ≤ x ∧ x < 10) → (spT l).length ≤ 2 * l.length
  | [], _ => by simp [spT, Lib.join_nil]
  | x :: l, h => by
    have one : ∀ x : Int, 0 ≤ x ∧ x < 10 → (Lib.itoa x).length = 1 := fun x hx => by
      obtain ⟨n, rfl⟩ : ∃ n : Nat, x = (n : Int) := ⟨x.toNat, by omega⟩
      rw [itoa_nat', Lib.decDigits, dif_pos (by omega)]; rfl
    have hl : ∀ m : List Int, (∀ x ∈ m, 0 ≤ x ∧ x < 10) → (Lib.joinTail [32] (m.map Lib.itoa)).length ≤ 2 * m.length := by
      intro m
      induction m with
      | nil => intro _; simp [Lib.joinTail]
      | cons y m ih =>
        intro hm
        rw [List.map_cons, joinTail_cons, List.length_append, List.length_append, List.length_cons, one y (hm y (by simp))]
        have := ih (fun z hz => hm z (by simp [hz]))
        simp only [List.length_cons, List.length_nil]
        omega
    have h1 := hl l (fun z hz => h z (by simp [hz]))
    unfold spT
    rw [List.map_cons, Lib.join_cons, List.length_append, List.length_cons, one x (h x (by simp))]
    omega
theorem reqB_parts {n : Int} {l : List Int} (h : reqB n l = true) : (1 ≤ n ∧ n ≤ 8) ∧ l.length ≤ 60 ∧ ∀ x ∈ l, 0 ≤ x ∧ x ≤ n - 1 := by
  unfold reqB at h
  simp only [Bool.and_eq_true, decide_eq_true_eq, inB_iff] at h
  refine ⟨h.1.1, h.1.2, fun x hx => ?_⟩
  have h2 := h.2
  unfold belowB at h2
  rw [List.all_eq_true] at h2
  exact inB_iff.1 (h2 x hx)
theorem parR_len {n : Int} {s : List UInt8} (h : ¬ (1 ≤ n ∧ n ≤ 8) ∨ 120 < s.length) : parR n s = none := parR_none fun l h1 h2 => by
  obtain ⟨a, b, c⟩ := reqB_parts h1
  rcases h with h | h
  · exact h a
  · subst h2
    cases l with
    | nil => simp [reqT, noneT] at h
    | cons x l =>
      have := sp_len1 (x :: l) (fun z hz => by have := c z hz; omega)
      rw [reqT] at h
      omega
theorem parR_word {n : Int} {s : List UInt8} (hs : s ≠ noneT) {x : List UInt8} (hx : x ∈ splitC 32 s) (h : isNum x = false ∨ ¬ (0 ≤ valS x ∧ valS x ≤ n - 1)) : parR n s = none := parR_none fun l h1 h2 => by
  obtain ⟨a, b, c⟩ := reqB_parts h1
  obtain ⟨_, e⟩ := req_words h2 hs
  rw [e] at hx
  obtain ⟨v, hv, rfl⟩ := List.mem_map.1 hx
  rw [isNum_itoa, valS_itoa] at h
  rcases h with h | h
  · cases h
  · exact h (c v hv)
theorem parR_words {n : Int} {s : List UInt8} (_hs : s ≠ noneT) (h : ∀ x ∈ splitC 32 s, isNum x = true) : parR n s = if reqB n (wordsV s) then some (wordsV s) else none := by
  have hne : wordsV s ≠ [] := fun e => splitC_ne 32 s (List.map_eq_nil_iff.1 e)
  have ht : reqT (wordsV s) = s := by rw [reqT_ne hne]; exact words_sp h
  cases hr : reqB n (wordsV s) with
  | true => rw [if_pos rfl]; exact parR_some.2 ⟨hr, ht⟩
  | false =>
    rw [if_neg (by decide)]
    refine parR_none fun l h1 h2 => ?_
    rw [reqT_inj (ht.trans h2.symm), h1] at hr
    cases hr
theorem parR_no (n : Int) : parR n noneT = if inB n 1 8 then some [] else none := by
  cases h : inB n 1 8 with
  | true => rw [if_pos rfl]; exact parR_some.2 ⟨by unfold reqB; rw [h]; rfl, rfl⟩
  | false =>
    rw [if_neg (by decide)]
    refine parR_none fun l h1 _ => ?_
    rw [inB_iff.2 (reqB_parts h1).1] at h
    cases h
end Go.Proofs.YtndhijckbponkaaGreatDoor
