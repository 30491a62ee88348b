import Derived.Test.YtndhijckbponkaaGreatDoorPkX2
import Derived.Test.YtndhijckbponkaaGreatDoorDat
import Derived.Test.YtndhijckbponkaaGreatDoorIa
/- a text parted at a byte, whole: both texts do it alike -/
namespace Go.Proofs.YtndhijckbponkaaGreatDoor
open Go.RowKit

theorem elSt : El 59 9 (.string ByteArray.empty) 1 16 := El.mk' Tryz.underlying59 (by kernel_rfl) rfl (by decide)
/-- a row of texts that the call owns -/
def SRow (base : Nat) (w : World) (v : Value) (L : List (List UInt8)) : Prop := OS 9 1 base w v L.length (L.map sv)
/-- a row of texts that is read -/
def SRd (w : World) (v : Value) (L : List (List UInt8)) : Prop := RF No w v 1 L.length (L.map sv)
theorem SRow.rd {base : Nat} {w : World} {v : Value} {L : List (List UInt8)} (h : SRow base w v L) : SRd w v L := h.readNo
theorem SRow.keep {base : Nat} {w w' : World} {v : Value} {L : List (List UInt8)} (h : SRow base w v L) (hc : Chg No w w') : SRow base w' v L := OS.keep h hc
theorem SRd.keep {w w' : World} {v : Value} {L : List (List UInt8)} (h : SRd w v L) (hc : Chg No w w') : SRd w' v L := RF.keep h hc
theorem SRd.view {w : World} {v : Value} {L : List (List UInt8)} (h : SRd w v L) (hn : L ≠ []) : ∃ b off cap, v = .slice (some ⟨b, off, none⟩) L.length cap ∧ L.length ≤ cap ∧ cap ≤ 9223372036854775807 ∧ b < w.heap.size ∧ ∀ i, i < L.length → w.cell? ⟨b, off + i, none⟩ = some (sv (L.getD i [])) := by
  obtain ⟨a, cap, rfl, h1, h2, h3, h0, h4⟩ := h
  have hp : 0 < L.length := by cases L with
    | nil => exact absurd rfl hn
    | cons x L => simp
  obtain ⟨b, off, rfl, _, hb, hc⟩ := h4 hp
  refine ⟨b, off, cap, rfl, h1, h2, hb, fun i hi => ?_⟩
  rw [hc i (by simpa using hi)]
  simp [List.getD_eq_getElem?_getD, hi]
theorem OS.is {E : TypeId} {sz base : Nat} {w : World} {v : Value} {n n' : Nat} {cs cs' : List Value} (h : OS E sz base w v n cs) (hn : n = n') (hc : cs = cs') : OS E sz base w v n' cs' := by subst hn; subst hc; exact h
theorem extr (l : List UInt8) (m k : Nat) : (⟨l.toArray⟩ : ByteArray).extract m k = ⟨((l.take k).drop m).toArray⟩ := by
  apply ByteArray.ext
  simp [ByteArray.data_extract, List.extract_toArray]
  rw [List.drop_take]
/-- a text's slice -/
theorem sl_run (T : TypeId) (hT : Tryz.prog.underlying T = some .string) (s : List UInt8) (m k : Nat) (hm : m ≤ k) (hk : k ≤ s.length) : ∀ W, (Instr.slice T (.string ⟨s.toArray⟩) (some (.int .i64 (m : Int))) (some (.int .i64 (k : Int))) none).run Tryz.prog W = .ok (.string ⟨((s.take k).drop m).toArray⟩) W := fun W => by
  have hs : (⟨s.toArray⟩ : ByteArray).size = s.length := by simp [ByteArray.size]
  rw [run_slice_string _ _ _ _ _ _ _ hT (by omega) (by omega) (by rw [hs]; omega), Int.toNat_natCast, Int.toNat_natCast, extr]
theorem sl_runF (T : TypeId) (hT : Tryz.prog.underlying T = some .string) (s : List UInt8) (m : Nat) (hm : m ≤ s.length) : ∀ W, (Instr.slice T (.string ⟨s.toArray⟩) (some (.int .i64 (m : Int))) none none).run Tryz.prog W = .ok (.string ⟨(s.drop m).toArray⟩) W := fun W => by
  have hs : (⟨s.toArray⟩ : ByteArray).size = s.length := by simp [ByteArray.size]
  rw [run_slice_string_from_if (P := Tryz.prog) (w := W) (t := T) (s := ⟨s.toArray⟩) (k := .i64) (i := (m : Int)) hT, if_pos ⟨by omega, by rw [hs]; omega⟩, Int.toNat_natCast, hs, extr, List.take_length]
theorem ix_run (T : TypeId) (hT : Tryz.prog.underlying T = some .string) (s : List UInt8) (k : Nat) (hk : k < s.length) : ∀ W, (Instr.index T (.string ⟨s.toArray⟩) (.int .i64 (k : Int))).run Tryz.prog W = .ok (.int .u8 (s[k].toNat : Int)) W := fun W => by
  have hsz : (⟨s.toArray⟩ : ByteArray).size = s.length := by simp [ByteArray.size]
  rw [run_index_string _ _ _ _ _ hT, dif_pos ⟨by omega, by rw [hsz]; omega⟩]
  have : (⟨s.toArray⟩ : ByteArray)[(k : Int).toNat]'(by rw [hsz]; omega) = s[k] := by simp; rfl
  rw [this]
theorem splitC_at (b : UInt8) (s : List UInt8) (m k : Nat) (hm : m ≤ k) (hk : k < s.length) (h : s[k] = b) (hn : b ∉ (s.take k).drop m) : splitC b (s.drop m) = (s.take k).drop m :: splitC b (s.drop (k + 1)) := by
  have e : s.drop m = (s.take k).drop m ++ b :: s.drop (k + 1) := by
    conv => lhs; rw [← List.take_append_drop k s]
    rw [List.drop_append_of_le_length (by simp; omega), ← h, List.getElem_cons_drop]
  rw [e, splitC_join b _ _ hn]
theorem notin_next (b : UInt8) (s : List UInt8) (m k : Nat) (hm : m ≤ k) (hk : k < s.length) (h : ¬ s[k] = b) (hn : b ∉ (s.take k).drop m) : b ∉ (s.take (k + 1)).drop m := by
  rw [List.take_succ_eq_append_getElem hk, List.drop_append_of_le_length (by simp; omega), List.mem_append, List.mem_singleton]
  rintro (h1 | h1)
  · exact hn h1
  · exact h h1.symm

set_option maxRecDepth 100000 in
set_option maxHeartbeats 2000000 in
theorem l1Split_all (s : List UInt8) (b : UInt8) (w : World) (hs : s.length ≤ 1073741824) :
    Calls Tryz.prog 37 #[.string ⟨s.toArray⟩, .int .u8 (b.toNat : Int)] w fun e w' => ∃ g n cap, e = .returned (.slice (some ⟨g, 0, none⟩) n cap) ∧ SRow w.heap.size w' (.slice (some ⟨g, 0, none⟩) n cap) (splitC b s) ∧ Chg No w w' := by
  go_enter Tryz.func37, Tryz.ntmps37
  go_wp2_with fail
  go_loopw [5, 6, 7] (fun o f i wr => ∃ (k m : Nat) (D : List (List UInt8)), k ≤ s.length ∧ i = .int .i64 k ∧ f = .int .i64 m ∧ m ≤ k ∧ OS 9 1 w.heap.size wr o D.length (D.map sv) ∧ D.length ≤ k ∧ Hid (D ++ splitC b (s.drop m) = splitC b s ∧ b ∉ (s.take k).drop m) ∧ Chg No w wr)
    (fun _ _ i _ => s.length - (intOf i).toNat)
  case atStart => exact ⟨0, 0, [], Nat.zero_le _, rfl, rfl, Nat.le_refl _, OS.zero (Nat.le_refl _), Nat.le_refl _, Lib.hid ⟨by simp, by simp⟩, (Chg.refl No w).alloc _⟩
  case round =>
    obtain ⟨k, m, D, hk, rfl, rfl, hm, ho, hn, HI, hch⟩ := hrel
    obtain ⟨n, hn0⟩ : ∃ n, D.length = n := ⟨_, rfl⟩
    obtain ⟨cs, hcs⟩ : ∃ cs, D.map sv = cs := ⟨_, rfl⟩
    rw [hn0, hcs] at ho
    rw [hn0] at hn
    have HD := Lib.hid (And.intro hn0 hcs)
    clear hn0 hcs
    by_cases hlt : k < s.length
    · have hix := ix_run 9 Tryz.underlying9 s k hlt
      obtain ⟨x, hx⟩ : ∃ x, s[k] = x := ⟨_, rfl⟩
      rw [hx] at hix
      by_cases hxb : x = b
      · have hq : (x.toNat : Int) = (b.toNat : Int) := by rw [hxb]
        have hsz := hch.size
        have HX := Lib.hid (hx.trans hxb)
        obtain ⟨X, hX⟩ : ∃ X, (s.take k).drop m = X := ⟨_, rfl⟩
        have hsl := sl_run 9 Tryz.underlying9 s m k hm (by omega)
        rw [hX] at hsl
        have HXX := Lib.hid hX
        have hxb' : ((x.toNat : Int) == (b.toNat : Int)) = true := by rw [hq]; simp
        clear hxb hx hX hq
        go_wp2_with (at_builtin; refine wappS1 elSt (by omega) rfl (.tmp 20) (.tmp 25) rfl ho rfl (by simp [Value.oneCell']) rfl rfl (by omega) (by omega) ?_)
        intro v1 w1 o1 k1 f1
        obtain ⟨a1, q1, rfl, _⟩ := o1.view
        have hch1 := hch.step k1 (fun q hq hl => by have := (ho.lt q hq).1; omega)
        go_wp2_with fail
        refine ⟨⟨k + 1, k + 1, D ++ [X], by omega, by go_num, by go_num, Nat.le_refl _, ?_, by simp [HD.out.1]; omega, Lib.hid ⟨?_, by simp⟩, hch1⟩, by simp [intOf]; omega⟩
        · refine o1.is (by simp [HD.out.1]) (by rw [List.map_append, HD.out.2]; rfl)
        · rw [← HI.out.1, splitC_at b s m k hm hlt HX.out HI.out.2, HXX.out]; simp
      · have hq : ((x.toNat : Int) == (b.toNat : Int)) = false := by
          rw [beq_eq_false_iff_ne]
          exact fun h => hxb (UInt8.toNat_inj.1 (by omega))
        have HX := Lib.hid (fun e => hxb (hx.symm.trans e) : ¬ s[k] = b)
        clear hxb hx
        go_wp2_with fail
        refine ⟨⟨k + 1, m, D, by omega, by go_num, rfl, by omega, ho.is HD.out.1.symm HD.out.2.symm, by rw [HD.out.1]; omega, Lib.hid ⟨HI.out.1, notin_next b s m k hm hlt HX.out HI.out.2⟩, hch⟩, by simp [intOf]; omega⟩
    · have hsz := hch.size
      obtain ⟨X, hX⟩ : ∃ X, s.drop m = X := ⟨_, rfl⟩
      have hsl := sl_runF 9 Tryz.underlying9 s m (by omega)
      rw [hX] at hsl
      have HXX := Lib.hid hX
      clear hX
      go_wp2_with (at_builtin; refine wappS1 elSt (by omega) rfl (.tmp 29) (.tmp 33) rfl ho rfl (by simp [Value.oneCell']) rfl rfl (by omega) (by omega) ?_)
      intro v1 w1 o1 k1 f1
      obtain ⟨a1, q1, rfl, hv1, hv2, _, hv⟩ := o1.view
      obtain ⟨g, rfl, hg1, hg2, hgc, _⟩ := hv (by omega)
      have hch1 := hch.step k1 (fun q hq hl => by have := (ho.lt q hq).1; omega)
      have HF : Hid (D ++ [X] = splitC b s) := Lib.hid (by
        have hkl : k = s.length := by omega
        have hb := HI.out.2
        rw [hkl, List.take_length] at hb
        rw [← HI.out.1, splitC_one b _ hb, HXX.out])
      have HO : Hid (SRow w.heap.size w1 (.slice (some ⟨g, 0, none⟩) (n + 1) q1) (splitC b s)) := Lib.hid (by
        rw [← HF.out]
        exact o1.is (by simp [HD.out.1]) (by rw [List.map_append, HD.out.2]; rfl))
      clear hgc hv o1 HI
      go_wp2_with fail
      go_ret
      exact ⟨_, _, _, rfl, HO.out, hch1⟩

set_option maxRecDepth 100000 in
set_option maxHeartbeats 2000000 in
theorem splitAt_all (s : List UInt8) (b : UInt8) (w : World) (hs : s.length ≤ 1073741824) :
    Calls Tryz.prog 134 #[.string ⟨s.toArray⟩, .int .u8 (b.toNat : Int)] w fun e w' => ∃ g n cap, e = .returned (.slice (some ⟨g, 0, none⟩) n cap) ∧ SRow w.heap.size w' (.slice (some ⟨g, 0, none⟩) n cap) (splitC b s) ∧ Chg No w w' := by
  go_enter Tryz.func134, Tryz.ntmps134
  go_wp2_with fail
  go_loopw [5, 6, 11] (fun o f i wr => ∃ (k m : Nat) (D : List (List UInt8)), k ≤ s.length ∧ i = .int .i64 k ∧ f = .int .i64 m ∧ m ≤ k ∧ OS 9 1 w.heap.size wr o D.length (D.map sv) ∧ D.length ≤ k ∧ Hid (D ++ splitC b (s.drop m) = splitC b s ∧ b ∉ (s.take k).drop m) ∧ Chg No w wr)
    (fun _ _ i _ => s.length - (intOf i).toNat)
  case atStart => exact ⟨0, 0, [], Nat.zero_le _, rfl, rfl, Nat.le_refl _, OS.zero (Nat.le_refl _), Nat.le_refl _, Lib.hid ⟨by simp, by simp⟩, (Chg.refl No w).alloc _⟩
  case round =>
    obtain ⟨k, m, D, hk, rfl, rfl, hm, ho, hn, HI, hch⟩ := hrel
    obtain ⟨n, hn0⟩ : ∃ n, D.length = n := ⟨_, rfl⟩
    obtain ⟨cs, hcs⟩ : ∃ cs, D.map sv = cs := ⟨_, rfl⟩
    rw [hn0, hcs] at ho
    rw [hn0] at hn
    have HD := Lib.hid (And.intro hn0 hcs)
    clear hn0 hcs
    by_cases hlt : k < s.length
    · have hix := ix_run 9 Tryz.underlying9 s k hlt
      obtain ⟨x, hx⟩ : ∃ x, s[k] = x := ⟨_, rfl⟩
      rw [hx] at hix
      by_cases hxb : x = b
      · have hq : (x.toNat : Int) = (b.toNat : Int) := by rw [hxb]
        have hsz := hch.size
        have HX := Lib.hid (hx.trans hxb)
        obtain ⟨X, hX⟩ : ∃ X, (s.take k).drop m = X := ⟨_, rfl⟩
        have hsl := sl_run 9 Tryz.underlying9 s m k hm (by omega)
        rw [hX] at hsl
        have HXX := Lib.hid hX
        have hxb' : ((x.toNat : Int) == (b.toNat : Int)) = true := by rw [hq]; simp
        clear hxb hx hX hq
        go_wp2_with (at_builtin; refine wappS1 elSt (by omega) rfl (.tmp 19) (.tmp 24) rfl ho rfl (by simp [Value.oneCell']) rfl rfl (by omega) (by omega) ?_)
        intro v1 w1 o1 k1 f1
        obtain ⟨a1, q1, rfl, _⟩ := o1.view
        have hch1 := hch.step k1 (fun q hq hl => by have := (ho.lt q hq).1; omega)
        go_wp2_with fail
        refine ⟨⟨k + 1, k + 1, D ++ [X], by omega, by go_num, by go_num, Nat.le_refl _, ?_, by simp [HD.out.1]; omega, Lib.hid ⟨?_, by simp⟩, hch1⟩, by simp [intOf]; omega⟩
        · refine o1.is (by simp [HD.out.1]) (by rw [List.map_append, HD.out.2]; rfl)
        · rw [← HI.out.1, splitC_at b s m k hm hlt HX.out HI.out.2, HXX.out]; simp
      · have hq : ((x.toNat : Int) == (b.toNat : Int)) = false := by
          rw [beq_eq_false_iff_ne]
          exact fun h => hxb (UInt8.toNat_inj.1 (by omega))
        have HX := Lib.hid (fun e => hxb (hx.symm.trans e) : ¬ s[k] = b)
        clear hxb hx
        go_wp2_with fail
        refine ⟨⟨k + 1, m, D, by omega, by go_num, rfl, by omega, ho.is HD.out.1.symm HD.out.2.symm, by rw [HD.out.1]; omega, Lib.hid ⟨HI.out.1, notin_next b s m k hm hlt HX.out HI.out.2⟩, hch⟩, by simp [intOf]; omega⟩
    · have hsz := hch.size
      obtain ⟨X, hX⟩ : ∃ X, s.drop m = X := ⟨_, rfl⟩
      have hsl := sl_runF 9 Tryz.underlying9 s m (by omega)
      rw [hX] at hsl
      have HXX := Lib.hid hX
      clear hX
      go_wp2_with (at_builtin; refine wappS1 elSt (by omega) rfl (.tmp 29) (.tmp 33) rfl ho rfl (by simp [Value.oneCell']) rfl rfl (by omega) (by omega) ?_)
      intro v1 w1 o1 k1 f1
      obtain ⟨a1, q1, rfl, hv1, hv2, _, hv⟩ := o1.view
      obtain ⟨g, rfl, hg1, hg2, hgc, _⟩ := hv (by omega)
      have hch1 := hch.step k1 (fun q hq hl => by have := (ho.lt q hq).1; omega)
      have HF : Hid (D ++ [X] = splitC b s) := Lib.hid (by
        have hkl : k = s.length := by omega
        have hb := HI.out.2
        rw [hkl, List.take_length] at hb
        rw [← HI.out.1, splitC_one b _ hb, HXX.out])
      have HO : Hid (SRow w.heap.size w1 (.slice (some ⟨g, 0, none⟩) (n + 1) q1) (splitC b s)) := Lib.hid (by
        rw [← HF.out]
        exact o1.is (by simp [HD.out.1]) (by rw [List.map_append, HD.out.2]; rfl))
      clear hgc hv o1 HI
      go_wp2_with fail
      go_ret
      exact ⟨_, _, _, rfl, HO.out, hch1⟩
end Go.Proofs.YtndhijckbponkaaGreatDoor
