import Derived.Test.YtmnohickmidfkaaDoorYf
import Derived.Test.YtmnohickmidfkaaDoorDat
/- a text parted at a byte, as the reference does it -/
namespace Go.Proofs.YtmnohickmidfkaaDoor
open Go.RowKit

theorem elStr : El 83 9 (.string ByteArray.empty) 1 16 := El.mk' Tryd.underlying83 (by kernel_rfl) rfl (by decide)
def headS (b : UInt8) (s : List UInt8) (n : Nat) (cs : List Value) : Prop := (0 < n → cs[0]? = some (.string ⟨(preB b s).toArray⟩) ∧ b ∈ s)
theorem pre_at (b : UInt8) (s : List UInt8) (k : Nat) (hk : k < s.length) (h : s[k] = b) (hn : b ∉ s.take k) : preB b s = s.take k := by
  have e : s = s.take k ++ b :: s.drop (k + 1) := by
    rw [← h, List.getElem_cons_drop, List.take_append_drop]
  have h1 := (pre_join b (s.take k) (s.drop (k + 1)) hn).1
  rw [← e] at h1
  exact h1
set_option maxRecDepth 100000 in
set_option maxHeartbeats 2000000 in
theorem l1Split_any (s : List UInt8) (b : UInt8) (w : World) (hs : s.length ≤ 1073741824) :
    Calls Tryd.prog 64 #[.string ⟨s.toArray⟩, .int .u8 (b.toNat : Int)] w fun e w' => ∃ g n cap, e = .returned (.slice (some ⟨g, 0, none⟩) n cap) ∧ 1 ≤ n ∧ n ≤ cap ∧ cap ≤ 9223372036854775807 ∧ w.heap.size ≤ g ∧ g < w'.heap.size ∧ w'.cell? ⟨g, 0, none⟩ = some (.string ⟨(preB b s).toArray⟩) ∧ (2 ≤ n ↔ b ∈ s) ∧ Chg No w w' := by
  go_enter Tryd.func64, Tryd.ntmps64
  go_wp2_with fail
  go_loopw [5, 6, 7] (fun o f i wr => ∃ (k n m : Nat) (cs : List Value), k ≤ s.length ∧ i = .int .i64 k ∧ f = .int .i64 m ∧ m ≤ k ∧ OS 9 1 w.heap.size wr o n cs ∧ n ≤ k ∧ Hid ((n = 0 → m = 0 ∧ b ∉ s.take k) ∧ (0 < n → cs[0]? = some (.string ⟨(preB b s).toArray⟩) ∧ b ∈ s)) ∧ Chg No w wr) (fun _ _ i _ => s.length - (intOf i).toNat)
  case atStart => exact ⟨0, 0, 0, [], Nat.zero_le _, rfl, rfl, Nat.le_refl _, OS.zero (Nat.le_refl _), Nat.le_refl _, Lib.hid ⟨fun _ => ⟨rfl, by simp⟩, fun h => absurd h (by omega)⟩, (Chg.refl No w).alloc _⟩
  case round =>
    obtain ⟨k, n, m, cs, hk, rfl, rfl, hm, ho, hn, HI, hch⟩ := hrel
    by_cases hlt : k < s.length
    · obtain ⟨x, hx⟩ : ∃ x, s[k] = x := ⟨_, rfl⟩
      have hix : ∀ W, (Instr.index 9 (.string ⟨s.toArray⟩) (.int .i64 (k : Int))).run Tryd.prog W = .ok (.int .u8 (x.toNat : Int)) W := fun W => by
        have hsz : (⟨s.toArray⟩ : ByteArray).size = s.length := by simp [ByteArray.size]
        rw [run_index_string _ _ _ _ _ Tryd.underlying9, dif_pos ⟨by omega, by rw [hsz]; omega⟩]
        have : (⟨s.toArray⟩ : ByteArray)[(k : Int).toNat]'(by rw [hsz]; omega) = s[k] := by simp; rfl
        rw [this, hx]
      by_cases hxb : x = b
      · have hq : (x.toNat : Int) = (b.toNat : Int) := by rw [hxb]
        have hsz := hch.size
        have HX := Lib.hid (hx.trans hxb)
        clear hxb hx
        go_wp2_with (at_builtin; refine wappS1 elStr (by omega) rfl (.tmp 20) (.tmp 25) rfl ho rfl (by simp [Value.oneCell']) rfl rfl (by omega) (by omega) ?_)
        intro v1 w1 o1 k1 f1
        obtain ⟨a1, q1, rfl, _⟩ := o1.view
        have hch1 := hch.step k1 (fun q hq hl => by have := (ho.lt q hq).1; omega)
        go_wp2_with fail
        refine ⟨⟨k + 1, n + 1, k + 1, _, by omega, by go_num, by go_num, Nat.le_refl _, o1, by omega, Lib.hid ⟨fun h => absurd h (by omega), fun _ => ⟨?_, ?_⟩⟩, hch1⟩, by simp [intOf]; omega⟩
        · by_cases h0 : n = 0
          · obtain ⟨rfl, hb⟩ := HI.out.1 h0
            have hcl := ho.cl
            have hc0 : cs = [] := List.eq_nil_of_length_eq_zero (by omega)
            rw [hc0, pre_at b s k hlt HX.out hb]
            simp [ByteArray.extract_mk]
          · have hh := (HI.out.2 (by omega)).1
            have hcl := ho.cl
            rw [List.getElem?_append_left (by omega)]
            exact hh
        · rw [← HX.out]; exact List.getElem_mem hlt
      · have hq : ((x.toNat : Int) == (b.toNat : Int)) = false := by
          rw [beq_eq_false_iff_ne]
          exact fun h => hxb (UInt8.toNat_inj.1 (by omega))
        have HX := Lib.hid (fun e => hxb (hx.symm.trans e) : ¬ s[k] = b)
        clear hxb hx
        go_wp2_with fail
        refine ⟨⟨k + 1, n, m, cs, by omega, by go_num, rfl, by omega, ho, by omega, Lib.hid ⟨fun h => ⟨(HI.out.1 h).1, ?_⟩, HI.out.2⟩, hch⟩, by simp [intOf]; omega⟩
        rw [List.take_succ_eq_append_getElem hlt, List.mem_append, List.mem_singleton]
        rintro (h1 | h1)
        · exact (HI.out.1 h).2 h1
        · exact HX.out h1.symm
    · have hsz := hch.size
      go_wp2_with (at_builtin; refine wappS1 elStr (by omega) rfl (.tmp 29) (.tmp 33) rfl ho rfl (by simp [Value.oneCell']) rfl rfl (by omega) (by omega) ?_)
      intro v1 w1 o1 k1 f1
      obtain ⟨a1, q1, rfl, hv1, hv2, _, hv⟩ := o1.view
      obtain ⟨g, rfl, hg1, hg2, hgc, _⟩ := hv (by omega)
      have hch1 := hch.step k1 (fun q hq hl => by have := (ho.lt q hq).1; omega)
      go_wp2_with fail
      have hkl : k = s.length := by omega
      have hcl := ho.cl
      have HJ : Hid ((cs ++ [Value.string ((⟨s.toArray⟩ : ByteArray).extract m s.length)]).getD 0 undef = .string ⟨(preB b s).toArray⟩) := Lib.hid (by
        by_cases h0 : n = 0
        · obtain ⟨rfl, hb⟩ := HI.out.1 h0
          have hc0 : cs = [] := List.eq_nil_of_length_eq_zero (by omega)
          rw [hkl, List.take_length] at hb
          rw [hc0, (pre_all b s hb).1]
          simp [ByteArray.extract_mk]
        · have hh := (HI.out.2 (by omega)).1
          rw [List.getD_eq_getElem?_getD, List.getElem?_append_left (by omega), hh]
          rfl)
      have HM : Hid (2 ≤ n + 1 ↔ b ∈ s) := Lib.hid (by
        by_cases h0 : n = 0
        · have hb := (HI.out.1 h0).2
          rw [hkl, List.take_length] at hb
          exact ⟨fun h => absurd h (by omega), fun h => absurd h hb⟩
        · exact ⟨fun _ => (HI.out.2 (by omega)).2, fun _ => by omega⟩)
      have hg0 := hgc 0 (by simp)
      rw [HJ.out] at hg0
      clear hgc hv o1 HI HJ
      go_ret
      exact ⟨g, n + 1, q1, rfl, by omega, hv1, hv2, hg1, hg2, hg0, HM.out, hch1⟩

end Go.Proofs.YtmnohickmidfkaaDoor
