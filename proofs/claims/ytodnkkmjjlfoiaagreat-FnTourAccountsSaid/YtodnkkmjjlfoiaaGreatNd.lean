import Derived.Test.YtodnkkmjjlfoiaaGreatNc
import Derived.Test.YtodnkkmjjlfoiaaGreatUg
/- what is drawn for the laws over Tournaments; Tournaments compared -/
namespace Go.Proofs.YtodnkkmjjlfoiaaGreat
open Go.RowKit

set_option maxRecDepth 100000 in
set_option maxHeartbeats 2000000 in
theorem number12_any (b B K : Nat) (v : Value) (t : To) (w : World) (h : Cur w b B K) (hK : K ≤ 800000000) (hv : RT (fun q => q = b) w v t) :
    Calls Tryz.prog 64 #[.pointer (some ⟨b, 0, none⟩), v] w fun e w' => ∃ k : Int, e = .returned (.int .i64 k) ∧ Cur w' b B (K + 10) ∧ Chg (fun q => q = b) w w' := by
  obtain ⟨it, ps, rq⟩ := t
  obtain ⟨pv, rv, rfl, hps, hrq⟩ := hv
  simp only at hps hrq
  obtain ⟨pa, pc, rfl, _, _, hpn, _⟩ := id hps
  obtain ⟨ra, rc, rfl, _⟩ := id hrq
  have hb := h.lt
  obtain ⟨kk, b0⟩ := box31 (w := w) (t := 31) (x0 := .int .i64 it) (x1 := .slice pa ps.length pc) (x2 := .slice ra rq.length rc)
    (R := fun W => Chg No w W ∧ Box3 W w.heap.size (.int .i64 it) (.slice pa ps.length pc) (.slice ra rq.length rc)) (fun W k b0 => ⟨k, b0⟩)
  have hc := h.keep kk
  have kb := (Chg.refl (fun q => q = b) w).step kk (fun _ e _ => e.elim)
  clear hps hrq h kk
  go_enter Tryz.func64, Tryz.ntmps64
  go_wp2_with fail
  refine (one_any b B K 16 _ hc (by omega) (by omega)).mono ?_
  rintro e w1 ⟨y, rfl, hc1, hk1⟩
  replace b0 := b0.step hk1 (by omega)
  replace kb := kb.trans hk1
  clear hc hk1
  obtain ⟨c0, c1, c2, _⟩ := id b0
  cases y
  · go_wp2_with (go_at_call 111; refine (l1Most_any _ _ _).mono ?_; rintro e w' ⟨rfl, rfl⟩)
    refine (pick_any b B _ (max 1 (ps.length : Int)) _ hc1 (by omega) (by omega)).mono ?_
    rintro e w2 ⟨r, rfl, _, _, _, hc2, hk2⟩
    go_wp2_with fail
    go_ret
    exact ⟨r, rfl, hc2.more (by omega), kb.trans hk2⟩
  · go_wp2_with fail
    refine (among_lit b B _ _ [-1, (ps.length : Int), 4] _ _ _ _ _ (by simp) rfl rfl rfl hc1 (by omega) (by simp) (by simp)).mono ?_
    rintro e w2 ⟨r, rfl, _, hc2, hk2⟩
    go_wp2_with fail
    go_ret
    exact ⟨r, rfl, hc2.more (by omega), kb.trans hk2⟩
theorem RT.fresh {A : Nat → Prop} {w : World} {v : Value} {t : To} (h : RT A w v t) : RT (fun q => A q ∨ w.heap.size ≤ q) w v t := by
  obtain ⟨pv, rv, rfl, h1, h2⟩ := h
  exact ⟨_, _, rfl, h1.weak (fun q e hl => by rcases e with e | e; exact e; omega), h2.weak (fun q e hl => by rcases e with e | e; exact e; omega)⟩
theorem RT.weakS {A B : Nat → Prop} {w : World} {v : Value} {t : To} (h : RT A w v t) (hB : ∀ q, B q → q < w.heap.size → A q) : RT B w v t := by
  obtain ⟨pv, rv, rfl, h1, h2⟩ := h
  exact ⟨_, _, rfl, h1.weak hB, h2.weak hB⟩
theorem RT.step {A T : Nat → Prop} {w w' : World} {v : Value} {t : To} (h : RT A w v t) (hc : Chg T w w') (hT : ∀ k, T k → A k) : RT A w' v t := by
  obtain ⟨pv, rv, rfl, h1, h2⟩ := h
  exact ⟨_, _, rfl, h1.step hc hT, h2.step hc hT⟩
theorem RT.no {A : Nat → Prop} {w : World} {v : Value} {t : To} (h : RT A w v t) : RT No w v t := h.weakS (fun _ e _ => e.elim)
end Go.Proofs.YtodnkkmjjlfoiaaGreat
