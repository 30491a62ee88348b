import Derived.Test.YtccmocbkpanibaaGreatBt
/- a Tournament of the call's own: copied, marked; a list of [2]int compared, marked, looked at -/
namespace Go.Proofs.YtccmocbkpanibaaGreat
open Go.RowKit

theorem PO.weak {base base' g n : Nat} {ls : List Pl} {pf mf : Nat → Value} {w : World} (h : PO base g n ls pf mf w) (hb : base' ≤ base) : PO base' g n ls pf mf w :=
  ⟨h.len, h.lt, Nat.le_trans hb h.low, h.fr, h.cell, fun i hi => (h.pg i hi).weak hb, fun i hi => (h.mq i hi).weak hb, h.far, h.apart, h.dis⟩
/-- a Tournament of the call's own -/
def TOwn (base : Nat) (w : World) (v : Value) (t : To) (g : Nat) (pf mf : Nat → Value) (rv : Value) : Prop :=
  v = .agg #[.int .i64 t.items, .slice (some ⟨g, 0, none⟩) t.ps.length t.ps.length, rv] ∧ PO base g t.ps.length t.ps pf mf w ∧ OI base w rv t.reqs ∧ ∀ q, FP g t.ps.length pf mf q → ¬ own rv q
def ownT (g n : Nat) (pf mf : Nat → Value) (rv : Value) : Nat → Prop := fun q => FP g n pf mf q ∨ own rv q
theorem TOwn.inF {base : Nat} {w : World} {v : Value} {t : To} {g : Nat} {pf mf : Nat → Value} {rv : Value} (h : TOwn base w v t g pf mf rv) (q : Nat) (hq : ownT g t.ps.length pf mf rv q) : base ≤ q ∧ q < w.heap.size := by
  rcases hq with hq | hq
  · exact h.2.1.inF q hq
  · exact h.2.2.1.lt q hq
theorem TOwn.step {base : Nat} {w w' : World} {v : Value} {t : To} {g : Nat} {pf mf : Nat → Value} {rv : Value} {S : Nat → Prop} (h : TOwn base w v t g pf mf rv) (hc : Chg S w w') (hS : ∀ q, ownT g t.ps.length pf mf rv q → ¬ S q) : TOwn base w' v t g pf mf rv :=
  ⟨h.1, h.2.1.step hc (fun q hq => hS q (.inl hq)), h.2.2.1.step hc (fun q hq => hS q (.inr hq)), h.2.2.2⟩
theorem TOwn.keep {base : Nat} {w w' : World} {v : Value} {t : To} {g : Nat} {pf mf : Nat → Value} {rv : Value} (h : TOwn base w v t g pf mf rv) (hc : Chg No w w') : TOwn base w' v t g pf mf rv := h.step hc (fun _ _ e => e)
theorem TOwn.rt {base : Nat} {w : World} {v : Value} {t : To} {g : Nat} {pf mf : Nat → Value} {rv : Value} (h : TOwn base w v t g pf mf rv) (hn : t.ps.length ≤ 1048576) : RT No w v t :=
  ⟨_, _, h.1, h.2.1.read (Nat.le_refl _) (by omega) hn (fun _ _ e => e), h.2.2.1.read (fun _ _ e => e)⟩
set_option maxRecDepth 100000 in
set_option maxHeartbeats 1000000 in
theorem toTournament_own (v : Value) (t : To) (w : World) (h : RT No w v t) :
    Calls Tryz.prog 9 #[v] w (Ret fun r w' => (∃ g pf mf rv, TOwn w.heap.size w' r t g pf mf rv) ∧ Chg No w w') := by
  obtain ⟨it, ps, rq⟩ := t
  obtain ⟨pv, rv, rfl, hps, hrq⟩ := h
  simp only [TOwn] at hps hrq ⊢
  obtain ⟨ra, rn, rc, rfl⟩ := hrq.shape
  obtain ⟨pa, pn, pc, rfl⟩ := hps.shape
  go_enter Tryz.func9, Tryz.ntmps9
  go_wp2_with fail
  refine boxes33 (R := fun W => Calls _ _ _ W _) (fun W hW b0 b1 b2 => ?_)
  have hsz := hW.size
  have hl2 := b2.lt
  refine (toPlayerS_own _ ps W (hps.keep hW)).mono ?_
  rintro e w1 ⟨_, rfl, ⟨G, pf, mf, rfl, o1⟩, k1⟩
  have b0 := b0.keep k1
  have b1 := b1.keep k1
  have b2 := b2.keep k1
  have hW1 := hW.keep k1
  have g1 := b2.c1
  have g1f := b2.fr 1
  obtain ⟨c0, c1, c2, _⟩ := b0.far ⟨w.heap.size + 1 + 1, 1, none⟩ (.slice (some ⟨G, 0, none⟩) ps.length ps.length) (by simp <;> omega)
  go_wp2_with fail
  have b1 := b1.far ⟨w.heap.size + 1 + 1, 1, none⟩ (.slice (some ⟨G, 0, none⟩) ps.length ps.length) (by simp <;> omega)
  have b2 := b2.set1 (.slice (some ⟨G, 0, none⟩) ps.length ps.length)
  have o1 := o1.step (S := fun q => q = w.heap.size + 1 + 1) ((Chg.refl (fun q => q = w.heap.size + 1 + 1) w1).setCell (p := ⟨w.heap.size + 1 + 1, 1, none⟩) (fun _ => rfl) (.slice (some ⟨G, 0, none⟩) ps.length ps.length)) (fun k hk e => by have := o1.inF k hk; omega)
  have hW1 := hW1.setCell (p := ⟨w.heap.size + 1 + 1, 1, none⟩) (fun h => by simp at h; omega) (.slice (some ⟨G, 0, none⟩) ps.length ps.length)
  clear c0 c1 c2 g1 g1f
  have hsW1 : W.heap.size ≤ (w1.setCell ⟨w.heap.size + 1 + 1, 1, none⟩ (.slice (some ⟨G, 0, none⟩) ps.length ps.length)).heap.size := by have := k1.size; simpa [World.setCell] using this
  generalize w1.setCell ⟨w.heap.size + 1 + 1, 1, none⟩ (.slice (some ⟨G, 0, none⟩) ps.length ps.length) = W1 at *
  refine (toIntS_any No _ _ W1 (hrq.keep hW1)).mono ?_
  rintro e w2 ⟨v2, rfl, o2, k2⟩
  obtain ⟨za, zn, zc, rfl⟩ := o2.shape
  have b1 := b1.keep k2
  have b2 := b2.keep k2
  have hin := o1.inF
  have o1 := o1.keep k2
  have hW2 := hW1.keep k2
  have hs1 := hW1.size
  have hs2 := hW2.size
  have hl3 := b1.lt
  have g2 := b2.c2
  have g2f := b2.fr 2
  obtain ⟨r0, r1, r2, _⟩ := b2.set2 (.slice za zn zc)
  have B1 := b1.far ⟨w.heap.size + 1 + 1, 2, none⟩ (.slice za zn zc) (by simp <;> omega)
  obtain ⟨s0, s1, s2, sf⟩ := id B1
  have sf0 := sf 0
  have sf1 := sf 1
  have sf2 := sf 2
  clear sf
  obtain ⟨z0, z1, z2, _⟩ := ((B1.set0 (.int .i64 it)).set1 (.slice (some ⟨G, 0, none⟩) ps.length ps.length)).set2 (.slice za zn zc)
  have ch : Chg (fun q => q = w.heap.size + 1 ∨ q = w.heap.size + 1 + 1) w2 ((((w2.setCell ⟨w.heap.size + 1 + 1, 2, none⟩ (.slice za zn zc)).setCell ⟨w.heap.size + 1, 0, none⟩ (.int .i64 it)).setCell ⟨w.heap.size + 1, 1, none⟩ (.slice (some ⟨G, 0, none⟩) ps.length ps.length)).setCell ⟨w.heap.size + 1, 2, none⟩ (.slice za zn zc)) :=
    ((((Chg.refl (fun q => q = w.heap.size + 1 ∨ q = w.heap.size + 1 + 1) w2).setCell (p := ⟨w.heap.size + 1 + 1, 2, none⟩) (fun _ => .inr rfl) _).setCell (p := ⟨w.heap.size + 1, 0, none⟩) (fun _ => .inl rfl) _).setCell (p := ⟨w.heap.size + 1, 1, none⟩) (fun _ => .inl rfl) _).setCell (p := ⟨w.heap.size + 1, 2, none⟩) (fun _ => .inl rfl) _
  have f1 := (o1.step ch (fun k hk e => by have := hin k hk; rcases e with h | h <;> omega)).weak (base' := w.heap.size) hsz
  have f2 := (o2.step ch (fun q hq e => by have := (o2.lt q hq).1; rcases e with h | h <;> omega)).weak (base' := w.heap.size) (by omega)
  have f3 : ∀ q, FP G ps.length pf mf q → ¬ own (.slice za zn zc) q := fun q hq e => by
    have := hin q hq
    have := (o2.lt q e).1
    omega
  have hk := hW2.step ch (fun q hq hl => by rcases hq with h | h <;> omega)
  clear ch b0 b1 b2 B1
  go_wp2_with fail
  refine bodyPost_ret (v := .agg #[.int .i64 it, .slice (some ⟨G, 0, none⟩) ps.length ps.length, .slice za zn zc]) (by simp [results, Tryz.results9, go_sem, z0, z1, z2]) rfl ?_
  exact ⟨_, rfl, ⟨G, pf, mf, _, rfl, f1, f2, f3⟩, hk⟩

def markT (k : Int) (t : To) : To := ⟨t.items, mkTo k t.ps t.ps.length, marks (k + totPl t.ps) t.reqs.length⟩
set_option maxRecDepth 100000 in
set_option maxHeartbeats 1000000 in
theorem markTournament_any (base : Nat) (v : Value) (t : To) (k : Int) (w : World) {g : Nat} {pf mf : Nat → Value} {rv : Value} (h : TOwn base w v t g pf mf rv) (hn : t.ps.length ≤ 1048576) (hk : 0 ≤ k) (hk' : k + totPl t.ps ≤ 100000000) :
    Calls Tryz.prog 13 #[v, .int .i64 k] w (Ret fun r w' => r = .int .i64 (k + totPl t.ps + t.reqs.length) ∧ TOwn base w' v (markT k t) g pf mf rv ∧ Chg (ownT g t.ps.length pf mf rv) w w') := by
  obtain ⟨it, ps, rq⟩ := t
  obtain ⟨rfl, hP, hR, hd⟩ := h
  simp only at hP hR hd hn hk' ⊢
  have hml := mkTo_len k ps ps.length
  obtain ⟨ra, rn, rc, rfl⟩ := hR.shape
  have k0 := (Chg.refl No w).alloc (.cells #[.int .i64 it, .slice (some ⟨g, 0, none⟩) ps.length ps.length, .slice ra rn rc] 31)
  have b0 := Box3.new w (.int .i64 it) (.slice (some ⟨g, 0, none⟩) ps.length ps.length) (.slice ra rn rc) 31
  obtain ⟨c0, c1, c2, _⟩ := id b0
  have hb : ¬ FP g ps.length pf mf w.heap.size := fun hq => by have := (hP.inF _ hq).2; omega
  go_enter Tryz.func13, Tryz.ntmps13
  go_wp2_with fail
  refine (markPlayerS_any base g ps.length ps.length ps pf mf k _ (hP.keep k0) hn hk hk').mono ?_
  rintro e w1 ⟨_, rfl, rfl, o1, k1⟩
  have b0 := b0.step k1 hb
  clear c0 c1 c2
  obtain ⟨c0, c1, c2, _⟩ := id b0
  have hR1 := (hR.keep k0).step k1 (fun q hq e => hd q e hq)
  go_wp2_with fail
  refine (markIntS_any base _ rq (k + totPl ps) w1 hR1 (by omega)).mono ?_
  rintro e w2 ⟨_, rfl, rfl, o2, k2⟩
  go_wp2_with fail
  go_ret
  refine ⟨_, rfl, rfl, ⟨by simp only [markT, hml], ?_, by simpa only [markT] using o2, by simpa only [markT, hml] using hd⟩, ?_⟩
  · simp only [markT, hml]; exact o1.step k2 (fun q hq e => hd q hq e)
  · exact ((k0.mono (fun _ e _ => e.elim)).trans (k1.mono (fun q e _ => .inl e))).trans (k2.mono (fun q e _ => .inr e))
end Go.Proofs.YtccmocbkpanibaaGreat
