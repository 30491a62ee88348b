import Derived.Test.YtmnohickmidfkaaDoorWe
/- codes, and the draws over them -/
namespace Go.Proofs.YtmnohickmidfkaaDoor
open Go.RowKit

theorem RF.from {A : Nat → Prop} {w : World} {a : Option Addr} {n cap sz : Nat} {cs : List Value} (T : TypeId) (hu : Tryd.prog.underlying T = some (.slice (Tryd.prog.elem T))) (hz : ∀ w, (sizeOf (Tryd.prog.elem T)).run Tryd.prog w = .ok sz w) (h : RF A w (.slice a n cap) sz n cs) (i : Nat) (hi : i ≤ n) :
    ∃ a' c', (∀ w' : World, (Instr.slice T (.slice a n cap) (some (.int .i64 (i : Int))) none none).run Tryd.prog w' = .ok (.slice a' (n - i) c') w') ∧ RF A w (.slice a' (n - i) c') sz (n - i) (cs.drop (i * sz)) := by
  obtain ⟨a0, cap0, he, h1, h2, h3, h0, h4⟩ := h
  simp only [Value.slice.injEq, true_and] at he
  obtain ⟨rfl, rfl⟩ := he
  refine ⟨if cap = i then a else a.map (·.add (i * sz)), cap - i, fun w' => ?_, ?_⟩
  · rw [run_slice_l w' T a n cap hu .i64 i (by omega) (by omega), hz]
    simp [Result.andThen, sliced]
  · refine ⟨_, _, rfl, by omega, by omega, by rw [List.length_drop, h3, ← Nat.sub_mul], fun hn => ?_, fun hp => ?_⟩
    · by_cases hc : cap = i
      · omega
      · rw [if_neg hc] at hn
        have := h0 (by simpa using hn)
        omega
    · obtain ⟨b, off, rfl, hA, hb, hcell⟩ := h4 (by omega)
      refine ⟨b, off + i * sz, ?_, hA, hb, fun k hk => ?_⟩
      · have : ¬ cap = i := by omega
        simp [this, Addr.add]
      · rw [List.length_drop] at hk
        rw [Nat.add_assoc, hcell (i * sz + k) (by omega), List.getD_eq_getElem?_getD, List.getD_eq_getElem?_getD, List.getElem?_drop]
theorem und_bytes : Tryd.prog.underlying 51 = some (.slice (Tryd.prog.elem 51)) := by kernel_rfl
theorem siz_bytes (w : World) : (sizeOf (Tryd.prog.elem 51)).run Tryd.prog w = .ok 1 w := by kernel_rfl
/-- a code that is read -/
def Code (w : World) (v : Value) (n : Nat) : Prop := ∃ l : List Int, l.length = n ∧ RF No w v 1 n (l.map (Value.int .u8)) ∧ ∀ x ∈ l, 0 ≤ x ∧ x ≤ 255
theorem Code.keep {w w' : World} {v : Value} {n : Nat} (h : Code w v n) (hc : Chg No w w') : Code w' v n := by
  obtain ⟨l, h1, h2, h3⟩ := h
  exact ⟨l, h1, h2.keep hc, h3⟩
theorem Code.shape {w : World} {v : Value} {n : Nat} (h : Code w v n) : ∃ a c, v = .slice a n c := by
  obtain ⟨l, h1, ⟨a, c, rfl, _⟩, h3⟩ := h
  exact ⟨a, c, rfl⟩
/-- a cursor made -/
theorem Cur.new {w : World} {a : Option Addr} {n c : Nat} (h : Code w (.slice a n c) n) (hn : n ≤ 9223372036854775807) (T : TypeId) : Cur (w.alloc (.cells #[.slice a n c, .int .i64 0, .int .u64 0] T)) w.heap.size (w.heap.size + 1) 0 := by
  obtain ⟨l, hl, ⟨a0, c0, he, h1, h2, h3, h0, h4⟩, hx⟩ := h
  simp only [Value.slice.injEq, true_and] at he
  obtain ⟨rfl, rfl⟩ := he
  have hk := (Chg.refl No w).alloc (.cells #[.slice a n c, .int .i64 0, .int .u64 0] T)
  refine ⟨a, n, c, 0, 0, ⟨by rw [World.cell?_alloc_new]; rfl, by rw [World.cell?_alloc_new]; rfl, by rw [World.cell?_alloc_new]; rfl, fun o => World.frozen?_alloc_new _ _ _ _, fun hp => ?_⟩, Nat.le_refl _, hn, by omega, fun hp x hx => ?_⟩
  · obtain ⟨b, off, rfl, _, hb, hcell⟩ := h4 hp
    refine ⟨b, off, rfl, by omega, by rw [World.size_alloc]; omega, fun i hi => ⟨l.getD i 0, ?_, ?_⟩⟩
    · rw [hk.cellD b _ hb (fun e => e), hcell i (by rw [List.length_map]; omega)]
      have hil : i < l.length := by omega
      simp [List.getD_eq_getElem?_getD, hil]
    · rw [List.getD_eq_getElem?_getD, List.getElem?_eq_getElem (by omega : i < l.length)]
      exact hx _ (List.getElem_mem _)
  · subst hx
    obtain ⟨b, off, he, _, hb, _⟩ := h4 hp
    simp only [Option.some.injEq] at he
    subst he
    exact Nat.lt_succ_of_lt hb

set_option maxRecDepth 100000 in
theorem vBig_any (v : Value) (n : Nat) (w : World) (h : Code w v n) :
    Calls Tryd.prog 31 #[v] w fun e w' => e = .returned (.bool (decide ((65536 : Int) < (n : Int)))) ∧ w' = w := by
  obtain ⟨a, c, rfl⟩ := h.shape
  go_enter Tryd.func31, Tryd.ntmps31
  go_wp2_with fail
  go_ret
  exact ⟨rfl, rfl⟩

set_option maxRecDepth 100000 in
set_option maxHeartbeats 1000000 in
theorem vCut_any (v : Value) (n k : Nat) (w : World) (h : Code w v n) (hn : n ≤ 70000) (hk : k ≤ 200) :
    Calls Tryd.prog 34 #[v, .int .i64 (k : Int)] w fun e w' => ∃ v' n', e = .returned v' ∧ Code w' v' n' ∧ n' ≤ 70001 ∧ Chg No w w' := by
  obtain ⟨l, hl, hr, hx⟩ := h
  obtain ⟨a, c, rfl, _⟩ := id hr
  have hz : OS 5 1 w.heap.size (w.alloc (.cells #[] 5)) (.slice (some ⟨w.heap.size, 0, none⟩) 0 0) 0 [] := OS.zero (Nat.le_refl _)
  have HX := Lib.hid hx
  have HLL := Lib.hid hl
  clear hx
  have hfin : ∀ (m i : Nat) (y : Int) (w' : World) (v' : Value), (m ≤ 70000) → 0 ≤ y ∧ y ≤ 255 → OS 5 1 w.heap.size w' v' (m + 1) ((l.map (Value.int .u8)).drop i ++ [.int .u8 y]) → m = (l.drop i).length → Code w' v' (m + 1) := fun m i y w' v' hm hy ho hmi => by
    refine ⟨l.drop i ++ [y], by rw [List.length_append, ← hmi]; rfl, ?_, fun x hx => ?_⟩
    · have := ho.readNo
      rw [List.map_append, List.map_drop]
      exact this
    · rw [List.mem_append, List.mem_singleton] at hx
      rcases hx with hx | rfl
      · exact HX.out x (List.mem_of_mem_drop hx)
      · exact hy
  have HF := Lib.hid hfin
  clear hfin
  by_cases hkn : (n : Int) < (k : Int)
  ·
    obtain ⟨a', c', hsl, hfr⟩ := hr.from 51 und_bytes siz_bytes n (by omega)
    have hwr : IntKind.u8.wrap (n : Int) = (n : Int) := IntWalk.u8_in _ (by omega)
    have HFR := Lib.hid (hfr.keep ((Chg.refl No w).alloc (.cells #[] 5)))
    rw [Nat.mul_one] at HFR
    obtain ⟨m, hm⟩ : ∃ m, n - n = m := ⟨_, rfl⟩
    have HM := Lib.hid hm
    rw [hm] at hsl HFR
    have hm7 : m ≤ 70000 := by omega
    clear hfr hm hr
    go_enter Tryd.func34, Tryd.ntmps34
    go_wp2_with (at_builtin; first
      | (have h1 := k1; refine wappS1 elBytes (by omega) rfl (.tmp 15) (.tmp 18) rfl o1 rfl (by simp [Value.oneCell']) rfl rfl (by omega) (by have := kk1.size; omega) ?_; intro v2 w2 o2 k2 f2; obtain ⟨a2, q2, rfl, _⟩ := o2.view; have kk2 := kk1.step k2 (fun q hq hl => by have := (o1.lt q hq).1; omega))
      | (refine wappS elBytes (by omega) rfl (.tmp 11) (.tmp 14) rfl hz HFR.out (fun u hu => by (obtain ⟨z, _, rfl⟩ := List.mem_map.1 (List.mem_of_mem_drop hu); rfl)) rfl rfl (by omega) (by simp) ?_; intro v1 w1 o1 k1 f1; rw [Nat.zero_add, List.nil_append] at o1; obtain ⟨a1, q1, rfl, _⟩ := o1.view; have kk1 := ((Chg.refl No w).alloc (.cells #[] 5)).step k1 (fun q hq hl => by have := own_slice.1 hq; omega)))
    go_ret
    exact ⟨_, rfl, m + 1, HF.out m n (n : Int) w2 _ hm7 ⟨by omega, by omega⟩ o2 (by rw [List.length_drop, HLL.out, HM.out]), by omega, kk2⟩
  ·
    obtain ⟨a', c', hsl, hfr⟩ := hr.from 51 und_bytes siz_bytes k (by omega)
    have hwr : IntKind.u8.wrap (k : Int) = (k : Int) := IntWalk.u8_in _ (by omega)
    have HFR := Lib.hid (hfr.keep ((Chg.refl No w).alloc (.cells #[] 5)))
    rw [Nat.mul_one] at HFR
    obtain ⟨m, hm⟩ : ∃ m, n - k = m := ⟨_, rfl⟩
    have HM := Lib.hid hm
    rw [hm] at hsl HFR
    have hm7 : m ≤ 70000 := by omega
    clear hfr hm hr
    go_enter Tryd.func34, Tryd.ntmps34
    go_wp2_with (at_builtin; first
      | (have h1 := k1; refine wappS1 elBytes (by omega) rfl (.tmp 15) (.tmp 18) rfl o1 rfl (by simp [Value.oneCell']) rfl rfl (by omega) (by have := kk1.size; omega) ?_; intro v2 w2 o2 k2 f2; obtain ⟨a2, q2, rfl, _⟩ := o2.view; have kk2 := kk1.step k2 (fun q hq hl => by have := (o1.lt q hq).1; omega))
      | (refine wappS elBytes (by omega) rfl (.tmp 11) (.tmp 14) rfl hz HFR.out (fun u hu => by (obtain ⟨z, _, rfl⟩ := List.mem_map.1 (List.mem_of_mem_drop hu); rfl)) rfl rfl (by omega) (by simp) ?_; intro v1 w1 o1 k1 f1; rw [Nat.zero_add, List.nil_append] at o1; obtain ⟨a1, q1, rfl, _⟩ := o1.view; have kk1 := ((Chg.refl No w).alloc (.cells #[] 5)).step k1 (fun q hq hl => by have := own_slice.1 hq; omega)))
    go_ret
    exact ⟨_, rfl, m + 1, HF.out m k (k : Int) w2 _ hm7 ⟨by omega, by omega⟩ o2 (by rw [List.length_drop, HLL.out, HM.out]), by omega, kk2⟩

set_option maxRecDepth 100000 in
set_option maxHeartbeats 1000000 in
theorem DrawRec_any (v : Value) (n : Nat) (w : World) (h : Code w v n) (hn : n ≤ 70001) :
    Calls Tryd.prog 32 #[v] w fun e w' => ∃ c r : List UInt8, e = .returned (rv c r) ∧ c.length ≤ 64 ∧ r.length ≤ 64 ∧ Chg No w w' := by
  obtain ⟨a, cp, rfl⟩ := h.shape
  have k0 := (Chg.refl No w).alloc (.cells #[.string ⟨#[]⟩, .string ⟨#[]⟩] 43)
  have bx := Box2.new w (.string ⟨#[]⟩) (.string ⟨#[]⟩) 43
  have k1 := k0.alloc (.cells #[.slice a n cp, .int .i64 0, .int .u64 0] 76)
  have hc := Cur.new (h.keep k0) (by omega) 76
  rw [World.size_alloc] at hc
  have HB : Hid (∀ W, Chg (fun q => q = w.heap.size + 1) ((w.alloc (.cells #[.string ⟨#[]⟩, .string ⟨#[]⟩] 43)).alloc (.cells #[.slice a n cp, .int .i64 0, .int .u64 0] 76)) W → Box2 W w.heap.size (.string ⟨#[]⟩) (.string ⟨#[]⟩)) := Lib.hid (fun W hW => (bx.keep ((Chg.refl No _).alloc _)).step hW (by omega))
  have q1 := Lib.hid (logRecord_any _ _ _ _ hc (by rw [World.size_alloc, World.size_alloc]; omega) (by omega))
  clear h hc bx
  unfold rv at q1 ⊢
  go_enter Tryd.func32, Tryd.ntmps32
  go_wp2_with (go_at_call 55; refine (q1.out).mono ?_; rintro e w1 ⟨c, r, rfl, hcl, hrl, _, hk1⟩; obtain ⟨c0, c1, fr⟩ := HB.out w1 hk1)
  obtain ⟨z0, z1, _⟩ := (HB.out w1 hk1).put2 (.string ⟨c.toArray⟩) (.string ⟨r.toArray⟩)
  refine bodyPost_ret (v := .agg #[.string ⟨c.toArray⟩, .string ⟨r.toArray⟩]) (by simp [results, Tryd.results32, go_sem, z0, z1]) rfl ?_
  exact ⟨c, r, rfl, hcl, hrl, (k1.step hk1 (fun q hq hl => by omega)).put2 (fun h => absurd h (by omega)) _ _⟩

set_option maxRecDepth 100000 in
set_option maxHeartbeats 1000000 in
theorem DrawEnc_any (v : Value) (n : Nat) (w : World) (h : Code w v n) (hn : n ≤ 70001) :
    Calls Tryd.prog 33 #[v] w fun e w' => ∃ (k : Int) (c r : List UInt8), e = .returned (.tuple #[.int .i64 k, rv c r]) ∧ -1 ≤ k ∧ k ≤ 60 ∧ c.length ≤ 64 ∧ r.length ≤ 64 ∧ Chg No w w' := by
  obtain ⟨a, cp, rfl⟩ := h.shape
  have k0 := (Chg.refl No w).alloc (.cells #[.string ⟨#[]⟩, .string ⟨#[]⟩] 43)
  have bx := Box2.new w (.string ⟨#[]⟩) (.string ⟨#[]⟩) 43
  have k1 := k0.alloc (.cells #[.slice a n cp, .int .i64 0, .int .u64 0] 76)
  have hc := Cur.new (h.keep k0) (by omega) 76
  rw [World.size_alloc] at hc
  have HB : Hid (∀ W, Chg (fun q => q = w.heap.size + 1) ((w.alloc (.cells #[.string ⟨#[]⟩, .string ⟨#[]⟩] 43)).alloc (.cells #[.slice a n cp, .int .i64 0, .int .u64 0] 76)) W → Box2 W w.heap.size (.string ⟨#[]⟩) (.string ⟨#[]⟩)) := Lib.hid (fun W hW => (bx.keep ((Chg.refl No _).alloc _)).step hW (by omega))
  have hz : ((w.alloc (.cells #[.string ⟨#[]⟩, .string ⟨#[]⟩] 43)).alloc (.cells #[.slice a n cp, .int .i64 0, .int .u64 0] 76)).heap.size = w.heap.size + 1 + 1 := by rw [World.size_alloc, World.size_alloc]
  have q1 : Hid (Calls Tryd.prog 56 #[.pointer (some ⟨w.heap.size + 1, 0, none⟩), .slice (some ⟨w.heap.size + 1 + 1, 0, none⟩) 6 6] (((w.alloc (.cells #[.string ⟨#[]⟩, .string ⟨#[]⟩] 43)).alloc (.cells #[.slice a n cp, .int .i64 0, .int .u64 0] 76)).alloc (.cells #[.int .i64 0, .int .i64 1, .int .i64 12, .int .i64 59, .int .i64 60, .int .i64 (-1)] 3)) fun e w' => ∃ r : Int, e = .returned (.int .i64 r) ∧ r ∈ [(0 : Int), 1, 12, 59, 60, -1] ∧ Cur w' (w.heap.size + 1) (w.heap.size + 1 + 1) (0 + 2) ∧ Chg (fun q => q = w.heap.size + 1) (((w.alloc (.cells #[.string ⟨#[]⟩, .string ⟨#[]⟩] 43)).alloc (.cells #[.slice a n cp, .int .i64 0, .int .u64 0] 76)).alloc (.cells #[.int .i64 0, .int .i64 1, .int .i64 12, .int .i64 59, .int .i64 60, .int .i64 (-1)] 3)) w') := Lib.hid (by
    refine among_any _ _ _ _ _ _ (hc.keep ((Chg.refl No _).alloc _)) (by omega) ?_ (by decide) (by decide)
    have := RF.lit (A := fun q => q = w.heap.size + 1) ((w.alloc (.cells #[.string ⟨#[]⟩, .string ⟨#[]⟩] 43)).alloc (.cells #[.slice a n cp, .int .i64 0, .int .u64 0] 76)) #[.int .i64 0, .int .i64 1, .int .i64 12, .int .i64 59, .int .i64 60, .int .i64 (-1)] 6 3 rfl (by rw [hz]; omega) (by decide)
    rw [hz] at this
    exact RI.ofRF (l := [0, 1, 12, 59, 60, -1]) this (by decide))
  clear h hc bx hz
  have q2 := Lib.hid (fun W (hW : Cur W (w.heap.size + 1) (w.heap.size + 1 + 1) (0 + 2)) hB => logRecord_any _ _ _ W hW hB (by omega))
  unfold rv at q2 ⊢
  have hs1 := k1.size
  have HZ : Hid (((w.alloc (.cells #[.string ⟨#[]⟩, .string ⟨#[]⟩] 43)).alloc (.cells #[.slice a n cp, .int .i64 0, .int .u64 0] 76)).heap.size = w.heap.size + 1 + 1) := Lib.hid (by rw [World.size_alloc, World.size_alloc])
  go_enter Tryd.func33, Tryd.ntmps33
  go_wp2_with (first
    | (go_at_call 56; refine (q1.out).mono ?_; rintro e w1 ⟨k, rfl, hkm, hc1, hk1'⟩; have hk1 := ((Chg.refl (fun q => q = w.heap.size + 1) _).alloc (.cells #[.int .i64 0, .int .i64 1, .int .i64 12, .int .i64 59, .int .i64 60, .int .i64 (-1)] 3)).trans hk1'; have HKM := Lib.hid hkm; clear hkm; have hs2 := hk1.size)
    | (go_at_call 55; refine (q2.out _ hc1 (by have := HZ.out; omega)).mono ?_; rintro e w2 ⟨c, r, rfl, hcl, hrl, _, hk2⟩; obtain ⟨c0, c1, fr⟩ := HB.out w2 (hk1.trans hk2)))
  obtain ⟨z0, z1, _⟩ := (HB.out w2 (hk1.trans hk2)).put2 (.string ⟨c.toArray⟩) (.string ⟨r.toArray⟩)
  refine bodyPost_ret (v := .tuple #[.int .i64 k, .agg #[.string ⟨c.toArray⟩, .string ⟨r.toArray⟩]]) (by simp [results, Tryd.results33, go_sem, z0, z1]) rfl ?_
  have hkm := HKM.out
  simp only [List.mem_cons, List.not_mem_nil, or_false] at hkm
  exact ⟨k, c, r, rfl, by omega, by omega, hcl, hrl, (k1.step (hk1.trans hk2) (fun q hq hl => by omega)).put2 (fun h => absurd h (by omega)) _ _⟩
end Go.Proofs.YtmnohickmidfkaaDoor
