import Derived.Test.YtfdmghohmohmpaaSo
import Derived.Test.YtfdmghohmohmpaaQv
import Derived.Test.YtfdmghohmohmpaaL
/- whether a Cache is valid, both sides -/
namespace Go.Proofs.Ytfdmghohmohmpaa
open Go.RowKit

theorem all_snoc (l : List Int) (p : Int → Bool) (k : Nat) (h : k < l.length) : (l.take (k + 1)).all p = ((l.take k).all p && p l[k]) := by
  rw [List.take_succ_eq_append_getElem h, List.all_append]; simp
theorem all_stop (l : List Int) (p : Int → Bool) (k : Nat) (h : k < l.length) (hk : p l[k] = false) : l.all p = false := by
  rw [List.all_eq_false]; exact ⟨l[k], List.getElem_mem h, by simp [hk]⟩
theorem len0 (n : Nat) : ((n : Int) == 0) = decide (n = 0) := by
  by_cases h : n = 0
  · simp [h]
  · have : ¬ (n : Int) = 0 := by omega
    simp [h]
theorem marksB_5 {c : Ca} (h : c.pol = 5) : marksB c = (decide (c.marks.length = c.pages.length) && c.marks.all fun m => inB m 1 60) := by unfold marksB; rw [if_pos h]
theorem marksB_6 {c : Ca} (h : c.pol = 6) : marksB c = (decide (c.marks.length = c.pages.length) && c.marks.all fun m => inB m 0 1) := by unfold marksB; rw [if_neg (by omega), if_pos h]
theorem marksB_no {c : Ca} (h5 : c.pol ≠ 5) (h6 : c.pol ≠ 6) : marksB c = decide (c.marks.length = 0) := by unfold marksB; rw [if_neg h5, if_neg h6]

set_option maxHeartbeats 400000 in
theorem isMarked_any (p : Int) (w : World) :
    Calls Try.prog 74 #[.int .i64 p] w fun e w' => e = .returned (.bool (p == 5 || p == 6)) ∧ w = w' := by
  cases h5 : p == 5 <;> cases h6 : p == 6
  all_goals
    go_enter Try.func74, Try.ntmps74
    go_wp2
    go_ret
    exact ⟨rfl, rfl⟩

set_option maxRecDepth 100000 in
set_option maxHeartbeats 400000 in
theorem IndexFunc2_any (A : Nat → Prop) (v : Value) (l : List Int) (w : World) (h : RI A w v l) (f : FuncId) (c0 c1 : Value) (p : Int → Bool)
    (hcf : ∀ x (w : World), (callFunc f #[.int .i64 x, c0, c1]).run Try.prog w = .ok (.enter f #[.int .i64 x, c0, c1]) w)
    (hp : ∀ x, x ∈ l → Calls Try.prog f #[.int .i64 x, c0, c1] w fun e w' => e = .returned (.bool (p x)) ∧ w = w') :
    Calls Try.prog 80 #[v, .func (.func f) #[] #[c0, c1]] w fun e w' => e = .returned (.int .i64 (idxF l p)) ∧ w = w' := by
  obtain ⟨a, cap, rfl, hcap, hmax, hlen, _, hc⟩ := h
  have HP := Lib.hid hp
  clear hp
  go_enter Try.func80, Try.ntmps80
  go_wp2
  go_loop [4, 8] (fun r i => ∃ k : Nat, k ≤ l.length ∧ i = .int .i64 k ∧ r = .int .i64 0 ∧ (l.take k).any p = false) (fun _ i => l.length - (intOf i).toNat)
  case atStart => exact ⟨0, Nat.zero_le _, rfl, rfl, rfl⟩
  case round =>
    obtain ⟨k, hk, rfl, rfl, hh⟩ := hrel
    have H := Lib.hid hh
    clear hh
    by_cases hlt : k < l.length
    · obtain ⟨b, off, rfl, _, _, hcell⟩ := hc (by intro e; simp [e] at hlt)
      have hck := hcell k hlt
      have hs := Lib.hid (any_snoc l p k hlt)
      have ht := Lib.hid (idxF_hit l p k hlt)
      have hm : l[k] ∈ l := List.getElem_mem hlt
      go_wp2_with fail
      refine (HP.out _ hm).mono ?_
      rintro e w' ⟨rfl, rfl⟩
      go_wp2
      · go_ret
        have h : p l[k] = true := by assumption
        exact ⟨ret_int (ht.out h H.out).symm, rfl⟩
      · have h : p l[k] = false := by assumption
        go_round
        case rel => exact ⟨k + 1, by omega, by go_num, rfl, by rw [hs.out, H.out, h]; rfl⟩
        case measure => simp [intOf]; omega
    · have hkl : k = l.length := by omega
      go_wp2
      go_ret
      subst hkl
      exact ⟨ret_int (by have := H.out; rw [List.take_length] at this; exact (idxF_none l p this).symm), rfl⟩

set_option maxRecDepth 100000 in
set_option maxHeartbeats 400000 in
theorem ContainsFunc2_any (A : Nat → Prop) (v : Value) (l : List Int) (w : World) (h : RI A w v l) (f : FuncId) (c0 c1 : Value) (p : Int → Bool)
    (hcf : ∀ x (w : World), (callFunc f #[.int .i64 x, c0, c1]).run Try.prog w = .ok (.enter f #[.int .i64 x, c0, c1]) w)
    (hp : ∀ x, x ∈ l → Calls Try.prog f #[.int .i64 x, c0, c1] w fun e w' => e = .returned (.bool (p x)) ∧ w = w') :
    Calls Try.prog 68 #[v, .func (.func f) #[] #[c0, c1]] w fun e w' => e = .returned (.bool (l.any p)) ∧ w = w' := by
  have hge := idxF_ge l p
  have H := Lib.hid hge
  have HP := Lib.hid hp
  clear hge hp
  have HC := Lib.hid hcf
  clear hcf
  go_enter Try.func68, Try.ntmps68
  go_wp2_with fail
  refine (IndexFunc2_any A v l w h f c0 c1 p HC.out HP.out).mono ?_
  rintro e w' ⟨rfl, rfl⟩
  go_wp2_with fail
  go_ret
  exact ⟨ret_bool H.out, rfl⟩

theorem cfMarks (x : Int) (c0 c1 : Value) (w : World) : (callFunc 75 #[.int .i64 x, c0, c1]).run Try.prog w = .ok (.enter 75 #[.int .i64 x, c0, c1]) w := by kernel_rfl
theorem cell_at1 {w : World} {x : Value} {t : TypeId} {n : Nat} (hn : w.heap.size = n) : (w.alloc (.cells #[x] t)).cell? ⟨n, 0, none⟩ = some x := by
  subst hn; rw [World.cell?_alloc_new]; rfl
theorem marksAt {w : World} {o : Obj} {x y : Value} {t : TypeId} {R : World → Prop} (h : ∀ W, Chg No w W → W.cell? ⟨w.heap.size + 1, 0, none⟩ = some x → W.cell? ⟨w.heap.size + 1 + 1, 0, none⟩ = some y → R W) :
    R (((w.alloc o).alloc (.cells #[x] t)).alloc (.cells #[y] t)) :=
  h _ ((((Chg.refl No w).alloc _).alloc _).alloc _) ((((Chg.refl No _).alloc _).cellD _ 0 (by simp) (fun e => e)).trans (cell_at1 (by simp))) (cell_at1 (by simp))
theorem not_any (l : List Int) (p : Int → Bool) : (!l.any fun x => !p x) = l.all p := by
  induction l with
  | nil => rfl
  | cons a l ih => simp only [List.any_cons, List.all_cons, Bool.not_or, Bool.not_not, ih]
set_option maxHeartbeats 400000 in
theorem areMarks1_any (x lo hi : Int) (b1 b2 : Nat) (w : World) (h1 : w.cell? ⟨b1, 0, none⟩ = some (.int .i64 lo)) (h2 : w.cell? ⟨b2, 0, none⟩ = some (.int .i64 hi)) :
    Calls Try.prog 75 #[.int .i64 x, .pointer (some ⟨b1, 0, none⟩), .pointer (some ⟨b2, 0, none⟩)] w fun e w' => e = .returned (.bool (!inB x lo hi)) ∧ w = w' := by
  go_enter Try.func75, Try.ntmps75
  go_wp2_with (go_at_call 32; refine (within_any _ _ _ _).mono ?_; rintro e w' ⟨rfl, rfl⟩)
  go_ret
  exact ⟨rfl, rfl⟩

set_option maxRecDepth 100000 in
set_option maxHeartbeats 1000000 in
theorem areMarks_no (A : Nat → Prop) (v : Value) (c : Ca) (w : World) (h : RC A w v c) (h5 : c.pol ≠ 5) (h6 : c.pol ≠ 6) :
    Calls Try.prog 57 #[v] w (Ret fun r w' => r = .bool (marksB c) ∧ Chg No w w') := by
  have HM := Lib.hid (marksB_no h5 h6)
  obtain ⟨pv, mv, rfl, hp, hmk⟩ := h
  obtain ⟨pa, pn, pc, rfl⟩ := hp.shape
  obtain ⟨ma, mc, rfl, _⟩ := id hmk
  have e : (c.pol == 5 || c.pol == 6) = false := by simp [h5, h6]
  have E := Lib.hid e
  clear h5 h6 e
  have k0 := (Chg.refl No w).alloc (.cells #[.int .i64 c.pol, .int .i64 c.size, .slice pa pn pc, .slice ma c.marks.length mc, .int .i64 c.hand] 34)
  go_enter Try.func57, Try.ntmps57
  go_wp2_with fail
  refine (isMarked_any _ _).mono ?_
  rintro e w1 ⟨rfl, rfl⟩
  rw [E.out]
  go_wp2_with fail
  go_ret
  refine ⟨_, rfl, ?_, k0⟩
  rw [HM.out, ← len0]
  rfl

set_option maxRecDepth 100000 in
set_option maxHeartbeats 1000000 in
theorem areMarks_56 (A : Nat → Prop) (v : Value) (c : Ca) (w : World) (h : RC A w v c) (f : Int → Bool) (hf : marksB c = (decide (c.marks.length = c.pages.length) && c.marks.all f)) (hpf : (c.pol = 5 ∧ f = fun m => inB m 1 60) ∨ (c.pol = 6 ∧ f = fun m => inB m 0 1)) :
    Calls Try.prog 57 #[v] w (Ret fun r w' => r = .bool (marksB c) ∧ Chg No w w') := by
  obtain ⟨p, k, ps, m, hd⟩ := c
  obtain ⟨pv, mv, rfl, hp, hmk⟩ := h
  simp only at hp hmk hf hpf ⊢
  generalize marksB ⟨p, k, ps, m, hd⟩ = B at hf ⊢
  obtain ⟨pa, pc, rfl, _⟩ := id hp
  obtain ⟨ma, mc, rfl, _⟩ := id hmk
  have E : Hid ((p == 5 || p == 6) = true) := Lib.hid (by rcases hpf with ⟨h, _⟩ | ⟨h, _⟩ <;> simp [h])
  have HF := Lib.hid hf
  clear hf hp
  by_cases hl : m.length = ps.length
  · have hB : Hid (B = m.all f) := Lib.hid (by rw [HF.out]; simp [hl])
    have hle : ((m.length : Int) == (ps.length : Int)) = true := by simp [hl]
    clear HF hl
    rcases hpf with ⟨rfl, rfl⟩ | ⟨rfl, rfl⟩
    · skip
      rw [← not_any] at hB
      go_enter Try.func57, Try.ntmps57
      go_wp2_with fail
      refine (isMarked_any _ _).mono ?_
      rintro e w1 ⟨rfl, rfl⟩
      rw [E.out]
      go_wp2_with fail
      refine marksAt (R := fun W => Calls _ _ _ W _) (fun W kW hlo hhi => ?_)
      refine (ContainsFunc2_any A _ m W (hmk.keep kW) _ _ _ (fun x => !inB x 1 60) (fun x w => cfMarks x _ _ w) (fun x _ => areMarks1_any x 1 60 _ _ W hlo hhi)).mono ?_
      rintro e w1 ⟨rfl, rfl⟩
      go_wp2_with fail
      go_ret
      exact ⟨_, rfl, by rw [hB.out]; rfl, kW⟩
    · skip
      rw [← not_any] at hB
      go_enter Try.func57, Try.ntmps57
      go_wp2_with fail
      refine (isMarked_any _ _).mono ?_
      rintro e w1 ⟨rfl, rfl⟩
      rw [E.out]
      go_wp2_with fail
      refine marksAt (R := fun W => Calls _ _ _ W _) (fun W kW hlo hhi => ?_)
      refine (ContainsFunc2_any A _ m W (hmk.keep kW) _ _ _ (fun x => !inB x 0 1) (fun x w => cfMarks x _ _ w) (fun x _ => areMarks1_any x 0 1 _ _ W hlo hhi)).mono ?_
      rintro e w1 ⟨rfl, rfl⟩
      go_wp2_with fail
      go_ret
      exact ⟨_, rfl, by rw [hB.out]; rfl, kW⟩
  · have hle : ((m.length : Int) == (ps.length : Int)) = false := by rw [beq_eq_false_iff_ne]; omega
    have hB : Hid (B = false) := Lib.hid (by rw [HF.out]; simp [hl])
    clear HF hl
    rcases hpf with ⟨rfl, _⟩ | ⟨rfl, _⟩
    all_goals
      go_enter Try.func57, Try.ntmps57
      go_wp2_with fail
      refine (isMarked_any _ _).mono ?_
      rintro e w1 ⟨rfl, rfl⟩
      rw [E.out]
      go_wp2_with fail
      go_ret
      exact ⟨_, rfl, by rw [hB.out]; rfl, (((Chg.refl No w).alloc _).alloc _).alloc _⟩
theorem areMarks_any (A : Nat → Prop) (v : Value) (c : Ca) (w : World) (h : RC A w v c) :
    Calls Try.prog 57 #[v] w (Ret fun r w' => r = .bool (marksB c) ∧ Chg No w w') := by
  by_cases h5 : c.pol = 5
  · exact areMarks_56 A v c w h _ (marksB_5 h5) (.inl ⟨h5, rfl⟩)
  · by_cases h6 : c.pol = 6
    · exact areMarks_56 A v c w h _ (marksB_6 h6) (.inr ⟨h6, rfl⟩)
    · exact areMarks_no A v c w h h5 h6
end Go.Proofs.Ytfdmghohmohmpaa
