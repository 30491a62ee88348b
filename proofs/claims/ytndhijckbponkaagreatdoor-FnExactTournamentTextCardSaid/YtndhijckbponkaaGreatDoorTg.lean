import Derived.Test.YtndhijckbponkaaGreatDoorTf
import Derived.Test.YtndhijckbponkaaGreatDoorDat
/- what the laws' helpers do with Players in a row -/
namespace Go.Proofs.YtndhijckbponkaaGreatDoor
open Go.RowKit

theorem Chg.row7 (w : World) (g o : Nat) (x0 x1 x2 x3 x4 x5 x6 : Value) : Chg (fun k => k = g) w (((((((w.setCell ⟨g, o, none⟩ x0).setCell ⟨g, o + 1, none⟩ x1).setCell ⟨g, o + 2, none⟩ x2).setCell ⟨g, o + 3, none⟩ x3).setCell ⟨g, o + 4, none⟩ x4).setCell ⟨g, o + 5, none⟩ x5).setCell ⟨g, o + 6, none⟩ x6) :=
  ((((((((Chg.refl (fun k => k = g) w).setCell (p := ⟨g, o, none⟩) (fun _ => rfl) x0).setCell (p := ⟨g, o + 1, none⟩) (fun _ => rfl) x1).setCell (p := ⟨g, o + 2, none⟩) (fun _ => rfl) x2).setCell (p := ⟨g, o + 3, none⟩) (fun _ => rfl) x3).setCell (p := ⟨g, o + 4, none⟩) (fun _ => rfl) x4).setCell (p := ⟨g, o + 5, none⟩) (fun _ => rfl) x5).setCell (p := ⟨g, o + 6, none⟩) (fun _ => rfl) x6)
theorem other7 (w : World) (g o q : Nat) (h : q < o ∨ o + 7 ≤ q) (x0 x1 x2 x3 x4 x5 x6 : Value) : (((((((w.setCell ⟨g, o, none⟩ x0).setCell ⟨g, o + 1, none⟩ x1).setCell ⟨g, o + 2, none⟩ x2).setCell ⟨g, o + 3, none⟩ x3).setCell ⟨g, o + 4, none⟩ x4).setCell ⟨g, o + 5, none⟩ x5).setCell ⟨g, o + 6, none⟩ x6).cell? ⟨g, q, none⟩ = w.cell? ⟨g, q, none⟩ := by
  rw [World.cell?_setCell_other _ _ _ _ (by simp <;> omega), World.cell?_setCell_other _ _ _ _ (by simp <;> omega), World.cell?_setCell_other _ _ _ _ (by simp <;> omega), World.cell?_setCell_other _ _ _ _ (by simp <;> omega), World.cell?_setCell_other _ _ _ _ (by simp <;> omega), World.cell?_setCell_other _ _ _ _ (by simp <;> omega), World.cell?_setCell_other _ _ _ _ (by simp <;> omega)]
theorem Cell7.row {w : World} {g o : Nat} (x : Pl) (pv mv : Value) (h : ∀ r, r < 7 → ∃ u, w.cell? ⟨g, o + r, none⟩ = some u) : Cell7 (((((((w.setCell ⟨g, o, none⟩ (.int .i64 x.frm)).setCell ⟨g, o + 1, none⟩ (.int .i64 x.ca.pol)).setCell ⟨g, o + 2, none⟩ (.int .i64 x.ca.size)).setCell ⟨g, o + 3, none⟩ pv).setCell ⟨g, o + 4, none⟩ mv).setCell ⟨g, o + 5, none⟩ (.int .i64 x.ca.hand)).setCell ⟨g, o + 6, none⟩ (.int .i64 x.fa)) g o x pv mv := by
  obtain ⟨u0, h0⟩ := h 0 (by omega)
  obtain ⟨u1, h1⟩ := h 1 (by omega)
  obtain ⟨u2, h2⟩ := h 2 (by omega)
  obtain ⟨u3, h3⟩ := h 3 (by omega)
  obtain ⟨u4, h4⟩ := h 4 (by omega)
  obtain ⟨u5, h5⟩ := h 5 (by omega)
  obtain ⟨u6, h6⟩ := h 6 (by omega)
  rw [Nat.add_zero] at h0
  have e : ∀ (w : World) (i j : Nat) (x : Value), i ≠ j → (w.setCell ⟨g, i, none⟩ x).cell? ⟨g, j, none⟩ = w.cell? ⟨g, j, none⟩ := fun w i j x hij => World.cell?_setCell_other _ _ _ _ (by simp <;> omega)
  refine ⟨?_, ?_, ?_, ?_, ?_, ?_, ?_⟩
  · rw [e _ (o + 6) (o) _ (by omega), e _ (o + 5) (o) _ (by omega), e _ (o + 4) (o) _ (by omega), e _ (o + 3) (o) _ (by omega), e _ (o + 2) (o) _ (by omega), e _ (o + 1) (o) _ (by omega)]; exact World.cell?_setCell_same _ _ _ h0
  · rw [e _ (o + 6) (o + 1) _ (by omega), e _ (o + 5) (o + 1) _ (by omega), e _ (o + 4) (o + 1) _ (by omega), e _ (o + 3) (o + 1) _ (by omega), e _ (o + 2) (o + 1) _ (by omega)]; exact World.cell?_setCell_same _ _ _ ((e _ (o) (o + 1) _ (by omega)).trans h1)
  · rw [e _ (o + 6) (o + 2) _ (by omega), e _ (o + 5) (o + 2) _ (by omega), e _ (o + 4) (o + 2) _ (by omega), e _ (o + 3) (o + 2) _ (by omega)]; exact World.cell?_setCell_same _ _ _ ((e _ (o + 1) (o + 2) _ (by omega)).trans ((e _ (o) (o + 2) _ (by omega)).trans h2))
  · rw [e _ (o + 6) (o + 3) _ (by omega), e _ (o + 5) (o + 3) _ (by omega), e _ (o + 4) (o + 3) _ (by omega)]; exact World.cell?_setCell_same _ _ _ ((e _ (o + 2) (o + 3) _ (by omega)).trans ((e _ (o + 1) (o + 3) _ (by omega)).trans ((e _ (o) (o + 3) _ (by omega)).trans h3)))
  · rw [e _ (o + 6) (o + 4) _ (by omega), e _ (o + 5) (o + 4) _ (by omega)]; exact World.cell?_setCell_same _ _ _ ((e _ (o + 3) (o + 4) _ (by omega)).trans ((e _ (o + 2) (o + 4) _ (by omega)).trans ((e _ (o + 1) (o + 4) _ (by omega)).trans ((e _ (o) (o + 4) _ (by omega)).trans h4))))
  · rw [e _ (o + 6) (o + 5) _ (by omega)]; exact World.cell?_setCell_same _ _ _ ((e _ (o + 4) (o + 5) _ (by omega)).trans ((e _ (o + 3) (o + 5) _ (by omega)).trans ((e _ (o + 2) (o + 5) _ (by omega)).trans ((e _ (o + 1) (o + 5) _ (by omega)).trans ((e _ (o) (o + 5) _ (by omega)).trans h5)))))
  · exact World.cell?_setCell_same _ _ _ ((e _ (o + 5) (o + 6) _ (by omega)).trans ((e _ (o + 4) (o + 6) _ (by omega)).trans ((e _ (o + 3) (o + 6) _ (by omega)).trans ((e _ (o + 2) (o + 6) _ (by omega)).trans ((e _ (o + 1) (o + 6) _ (by omega)).trans ((e _ (o) (o + 6) _ (by omega)).trans h6))))))
theorem elPlayers : El 29 68 (.agg #[.int .i64 0, .int .i64 0, .int .i64 0, .slice none 0 0, .slice none 0 0, .int .i64 0, .int .i64 0]) 7 88 := El.mk' Tryz.underlying29 (by kernel_rfl) rfl (by omega)
/-- a Player in a row of one's own -/
def CP (base : Nat) (w : World) (g o : Nat) (x : Pl) : Prop := ∃ pv mv, Cell7 w g o x pv mv ∧ OI base w pv x.ca.pages ∧ OI base w mv x.ca.marks
theorem RPS.make {base : Nat} {w : World} {g cap : Nat} {ls : List Pl} (h : ∀ i, i < ls.length → CP base w g (i * 7) (ls.getD i dPl)) (hc : ls.length ≤ cap) (hcap : cap ≤ 9223372036854775807) (hn : ls.length ≤ 1048576) (hg : g < w.heap.size) {A : Nat → Prop} (hA : ¬ A g) (hB : ∀ q, base ≤ q → ¬ A q) :
    RPS A w (.slice (some ⟨g, 0, none⟩) ls.length cap) ls := by
  have h' : ∀ i : Nat, ∃ p : Value × Value, i < ls.length → Cell7 w g (i * 7) (ls.getD i dPl) p.1 p.2 ∧ OI base w p.1 (ls.getD i dPl).ca.pages ∧ OI base w p.2 (ls.getD i dPl).ca.marks := fun i => by
    by_cases hi : i < ls.length
    · obtain ⟨pv, mv, h1⟩ := h i hi
      exact ⟨(pv, mv), fun _ => h1⟩
    · exact ⟨(undef, undef), fun e => absurd e hi⟩
  obtain ⟨f, hf⟩ := Classical.axiomOfChoice h'
  refine ⟨_, cap, rfl, hc, hcap, hn, fun i => (f i).1, fun i => (f i).2, fun i hi => ?_, fun _ => ⟨g, 0, rfl, hA, hg, fun i hi => ?_⟩⟩
  · obtain ⟨_, h2, h3⟩ := hf i hi
    exact ⟨h2.read (fun q hq => hB q (h2.lt q hq).1), h3.read (fun q hq => hB q (h3.lt q hq).1)⟩
  · rw [Nat.zero_add]; exact (hf i hi).1

set_option maxRecDepth 100000 in
set_option maxHeartbeats 2000000 in
theorem toPlayerS_any (v : Value) (ls : List Pl) (w : World) (h : RPS No w v ls) :
    Calls Tryz.prog 32 #[v] w (Ret fun r w' => RPS (fun q => q < w.heap.size) w' r ls ∧ Chg No w w') := by
  obtain ⟨a, cap, rfl, hcap, hmax, hlen, pf, mf, hl, hcl⟩ := id h
  obtain ⟨i0, hi, hz0, hz1, hz2⟩ := elPlayers.info
  have hL : ls.length ≤ 1099511627776 := by omega
  go_enter Tryz.func32, Tryz.ntmps32
  go_wp2_with (refine wpList_make_full _ rfl (.tmp 6) (.tmp 6) 29 rfl w.heap.size 68 i0 (.agg #[.int .i64 0, .int .i64 0, .int .i64 0, .slice none 0 0, .slice none 0 0, .int .i64 0, .int .i64 0]) 7 elPlayers.und hi hz0 hz1 .i64 .i64 _ _ ls.length rfl rfl rfl rfl (by rw [hz2]; omega) (by unfold maxLen; omega) (Nat.le_refl _) ?_)
  intro W hW hg
  have hch0 := Chg.grownNone hg
  have hO : ∃ cs, OS 68 7 w.heap.size W (.slice (some ⟨w.heap.size, 0, none⟩) ls.length ls.length) ls.length cs := ⟨_, hL, hW⟩
  obtain ⟨cs0, hO0⟩ := hO
  have hgb := hO0.at.2.2.2.1
  have HL := Lib.hid hl
  have HC := Lib.hid hcl
  clear hg hW hz0 hz1 hz2 hi hl hcl
  go_wp2_with fail
  go_loopw [4] (fun i wr => ∃ (j : Nat) (cs : List Value), j ≤ ls.length ∧ i = .int .i64 j ∧ OS 68 7 w.heap.size wr (.slice (some ⟨w.heap.size, 0, none⟩) ls.length ls.length) ls.length cs ∧ (∀ q, q < j → CP (w.heap.size + 1) wr w.heap.size (q * 7) (ls.getD q dPl)) ∧ Chg No w wr) (fun i _ => ls.length - (intOf i).toNat)
  case atStart => exact ⟨0, cs0, Nat.zero_le _, rfl, hO0, fun q hq => absurd hq (Nat.not_lt_zero _), hch0⟩
  case round =>
    obtain ⟨j, cs, hj, rfl, hO, hP, hch⟩ := hrel
    clear hO0 hch0 hgb
    by_cases hlt : j < ls.length
    · obtain ⟨b, off, rfl, _, hb, hcell⟩ := HC.out (by intro e; simp [e] at hlt)
      have h7 := (hcell j hlt).step hch hb (fun e => e)
      obtain ⟨hpj, hmj⟩ := HL.out j hlt
      obtain ⟨y, hy⟩ : ∃ y, ls.getD j dPl = y := ⟨_, rfl⟩
      rw [hy] at h7 hpj hmj
      have HY := Lib.hid hy
      have HP := Lib.hid hP
      clear hcell hy hP
      have hj0 : (0 : Int) ≤ (j : Int) := Int.natCast_nonneg _
      have hj1 : (j : Int) < (ls.length : Int) := by omega
      have hw1 : IntKind.i64.wrap ((j : Int) + 1) = (j : Int) + 1 := IntWalk.i64_in _ (by omega)
      obtain ⟨pj, hpe⟩ : ∃ pj, pf j = pj := ⟨_, rfl⟩
      obtain ⟨mj, hme⟩ : ∃ mj, mf j = mj := ⟨_, rfl⟩
      rw [hpe] at hpj h7
      rw [hme] at hmj h7
      clear hpe hme
      obtain ⟨ya, yn, yc, rfl⟩ := hpj.shape
      obtain ⟨za, zn, zc, rfl⟩ := hmj.shape
      obtain ⟨g0, g1, g2, g3, g4, g5, g6⟩ := id h7
      have hgw := hO.at.2.2.2.1
      go_wp2_with fail
      refine (toPlayer_any No _ y wr ⟨_, _, rfl, hpj.keep hch, hmj.keep hch⟩).mono ?_
      rintro e w1 ⟨v1, rfl, o1, k1⟩
      obtain ⟨xp, xm, rfl, hxp, hxm, hxa⟩ := o1
      obtain ⟨oa, on, oc, rfl⟩ := hxp.shape
      obtain ⟨qa, qn, qc, rfl⟩ := hxm.shape
      have hO1 := hO.keep k1
      have hch1 := hch.keep k1
      have hcl7 := hO1.cl
      have hcells : ∀ r, r < 7 → ∃ u, w1.cell? ⟨w.heap.size, j * 7 + r, none⟩ = some u := fun r hr => ⟨_, hO1.at.1 (j * 7 + r) (by rw [hcl7]; omega)⟩
      have hfz := hO1.at.2.1
      clear g0 g1 g2 g3 g4 g5 g6 h7 hO
      obtain ⟨u0, hu0⟩ := hcells 0 (by omega)
      have fz0 := hfz (j * 7 + 0)
      obtain ⟨u1, hu1⟩ := hcells 1 (by omega)
      have fz1 := hfz (j * 7 + 1)
      obtain ⟨u2, hu2⟩ := hcells 2 (by omega)
      have fz2 := hfz (j * 7 + 2)
      obtain ⟨u3, hu3⟩ := hcells 3 (by omega)
      have fz3 := hfz (j * 7 + 3)
      obtain ⟨u4, hu4⟩ := hcells 4 (by omega)
      have fz4 := hfz (j * 7 + 4)
      obtain ⟨u5, hu5⟩ := hcells 5 (by omega)
      have fz5 := hfz (j * 7 + 5)
      obtain ⟨u6, hu6⟩ := hcells 6 (by omega)
      have fz6 := hfz (j * 7 + 6)
      rw [Nat.add_zero] at hu0 fz0
      have hO2 := (((((((hO1.store (j * 7) (.int .i64 y.frm)).1.store (j * 7 + 1) (.int .i64 y.ca.pol)).1.store (j * 7 + 2) (.int .i64 y.ca.size)).1.store (j * 7 + 3) (.slice oa on oc)).1.store (j * 7 + 4) (.slice qa qn qc)).1.store (j * 7 + 5) (.int .i64 y.ca.hand)).1.store (j * 7 + 6) (.int .i64 y.fa)).1
      have ck := Chg.row7 w1 w.heap.size (j * 7) (.int .i64 y.frm) (.int .i64 y.ca.pol) (.int .i64 y.ca.size) (.slice oa on oc) (.slice qa qn qc) (.int .i64 y.ca.hand) (.int .i64 y.fa)
      have hnew := Cell7.row (w := w1) (g := w.heap.size) (o := j * 7) y (.slice oa on oc) (.slice qa qn qc) hcells
      have hoth := fun q (hq : q < j * 7 ∨ j * 7 + 7 ≤ q) => other7 w1 w.heap.size (j * 7) q hq (.int .i64 y.frm) (.int .i64 y.ca.pol) (.int .i64 y.ca.size) (.slice oa on oc) (.slice qa qn qc) (.int .i64 y.ca.hand) (.int .i64 y.fa)
      have HNEW := Lib.hid hnew
      have HOTH := Lib.hid hoth
      have HCK := Lib.hid ck
      have HO2 := Lib.hid hO2
      have HHP := Lib.hid hxp
      have HHM := Lib.hid hxm
      clear hnew hoth ck hO2 hcells hfz
      go_wp2_with fail
      go_round
      case measure => simp [intOf]; omega
      case rel =>
        refine ⟨j + 1, _, by omega, by go_num, HO2.out, fun q hq => ?_, hch1.step HCK.out (fun k hk hl => by omega)⟩
        have hfar : ∀ {v : Value} {l : List Int} {base : Nat}, OI base w1 v l → w.heap.size < base → OI (w.heap.size + 1) _ v l := fun {v l base} h hb => (h.step HCK.out (fun k hk e => by have := (h.lt k hk).1; omega)).weak (by omega)
        by_cases hqj : q = j
        · subst hqj
          rw [HY.out]
          exact ⟨_, _, HNEW.out, hfar HHP.out hgw, hfar HHM.out hgw⟩
        · obtain ⟨pv, mv, ⟨e0, e1, e2, e3, e4, e5, e6⟩, h2, h3⟩ := HP.out q (by omega)
          have hbl : w.heap.size < wr.heap.size := hgw
          have kc : ∀ o, w1.cell? ⟨w.heap.size, o, none⟩ = wr.cell? ⟨w.heap.size, o, none⟩ := fun o => k1.cellD _ o hbl (fun e => e)
          exact ⟨pv, mv, ⟨(HOTH.out _ (by omega)).trans ((kc _).trans e0), (HOTH.out _ (by omega)).trans ((kc _).trans e1), (HOTH.out _ (by omega)).trans ((kc _).trans e2), (HOTH.out _ (by omega)).trans ((kc _).trans e3), (HOTH.out _ (by omega)).trans ((kc _).trans e4), (HOTH.out _ (by omega)).trans ((kc _).trans e5), (HOTH.out _ (by omega)).trans ((kc _).trans e6)⟩, hfar (h2.keep k1) (by omega), hfar (h3.keep k1) (by omega)⟩
    · have hjl : j = ls.length := by omega
      subst hjl
      have hr := RPS.make hP (Nat.le_refl _) (by omega) hlen hO.at.2.2.2.1 (A := fun q => q < w.heap.size) (by omega) (fun q hq => by omega)
      clear hP
      go_wp2_with fail
      go_ret
      exact ⟨_, rfl, hr, hch⟩
end Go.Proofs.YtndhijckbponkaaGreatDoor
