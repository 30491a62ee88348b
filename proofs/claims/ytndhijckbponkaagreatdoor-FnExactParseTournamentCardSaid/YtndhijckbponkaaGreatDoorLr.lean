import Derived.Test.YtndhijckbponkaaGreatDoorCd
import Derived.Test.YtndhijckbponkaaGreatDoorH
import Derived.Test.YtndhijckbponkaaGreatDoorT
/- the run of a cache in the reference -/
namespace Go.Proofs.YtndhijckbponkaaGreatDoor
open Go.RowKit

def reqB (n : Int) (l : List Int) : Bool := inB n 1 8 && decide (l.length ≤ 60) && belowB n l
/-- the tail, behind operation k -/
theorem wpAnyK_tailK {P : Program} {Q : Exit → Act → World → Prop} {md : Region.Mode} {S : World → Prop} {k : Nat} (n : Nat) {f : Nat} {l : List Oper} {listed : Array Bool} {a : Act} {w : World} (hf : (l.drop n).length = f) (hB : (Region.seqB md l.toArray f n listed && listed.getD k true) = true)
    (h : wpList P l.toArray Q (l.drop n) a w) : wpAnyK P md l.toArray Q S k f listed a w := by
  subst hf
  simp only [Bool.and_eq_true] at hB
  exact wpAnyK_of_any _ _ _ _ hB.2 (wpAny_of_seq (P := P) (md := md) (Q' := Q) (l.drop n) n listed a w (fun j => by simp [List.getElem?_drop]) hB.1 h)
set_option maxRecDepth 100000 in
set_option maxHeartbeats 2000000 in
theorem l4Run_any (v rv : Value) (c : Ca) (l : List Int) (w : World) (hv : RC No w v c) (hr : RI No w rv l) (hok : Ok c) :
    Calls Tryz.prog 127 #[v, rv] w (Ret fun v' w' => RC No w' v' (runC c l) ∧ Chg No w w') := by
  obtain ⟨pv, mv, rfl, hp, hmk⟩ := hv
  obtain ⟨pa, pn, pc, rfl⟩ := hp.shape
  obtain ⟨ma, mn, mc, rfl⟩ := hmk.shape
  obtain ⟨a, cap, rfl, hcap, hmax, hlen, _, hc⟩ := id hr
  go_enter Tryz.func127, Tryz.ntmps127
  go_wp2
  go_loopw [5] (fun i wr => ∃ (k : Nat) (pv mv : Value), k ≤ l.length ∧ i = .int .i64 k ∧ Bd (fun q => q = w.heap.size ∨ q = w.heap.size + 1) wr ∧
      Box wr w.heap.size (.int .i64 (runC c (l.take k)).pol) (.int .i64 (runC c (l.take k)).size) pv mv (.int .i64 (runC c (l.take k)).hand) ∧
      Box wr (w.heap.size + 1) (.int .i64 0) (.int .i64 0) (.slice none 0 0) (.slice none 0 0) (.int .i64 0) ∧
      RI (fun q => q = w.heap.size ∨ q = w.heap.size + 1) wr pv (runC c (l.take k)).pages ∧ RI (fun q => q = w.heap.size ∨ q = w.heap.size + 1) wr mv (runC c (l.take k)).marks ∧ Chg No w wr) (fun i _ => l.length - (intOf i).toNat)
  case atStart =>
    refine ⟨0, .slice pa pn pc, .slice ma mn mc, Nat.zero_le _, rfl, fun q hq => ?_, (Box.new w _ _ _ _ _ _).keep ((Chg.refl No _).alloc _), (Box.new (w.alloc _) _ _ _ _ _ _).at (by simp), ?_, ?_, ((Chg.refl No w).alloc _).alloc _⟩
    · rw [World.size_alloc, World.size_alloc]
      rcases hq with h | h <;> omega
    · exact hp.to (((Chg.refl No w).alloc _).alloc _) (fun _ e => e.elim) (fun q hq => .inr (by omega))
    · exact hmk.to (((Chg.refl No w).alloc _).alloc _) (fun _ e => e.elim) (fun q hq => .inr (by omega))
  case round =>
    obtain ⟨k, pv, mv, hk, rfl, hB, hbox, hb1, hp', hm', hch⟩ := hrel
    obtain ⟨pa', pn', pc', rfl⟩ := hp'.shape
    obtain ⟨ma', mn', mc', rfl⟩ := hm'.shape
    obtain ⟨ck, hck⟩ : ∃ ck, runC c (l.take k) = ck := ⟨_, rfl⟩
    have hokk : Ok ck := hck ▸ ok_run hok _
    by_cases hlt : k < l.length
    · rw [hck] at hbox hp' hm'
      obtain ⟨b, off, rfl, _, hb, hcell⟩ := hc (by intro e; simp [e] at hlt)
      have hrun := runC_snoc c l k hlt
      rw [hck] at hrun
      obtain ⟨y, hy⟩ : ∃ y, l[k] = y := ⟨_, rfl⟩
      have hcl := (hch.cellD b (off + k) hb (fun e => e)).trans (hcell k hlt)
      have hgy : l.getD k 0 = y := by rw [← hy, List.getD_eq_getElem?_getD, List.getElem?_eq_getElem hlt]; rfl
      rw [hgy] at hcl
      rw [hy] at hrun
      have HR := Lib.hid hrun
      clear hcell hc hrun hck hgy hy
      have hk0 : (0 : Int) ≤ (k : Int) := Int.natCast_nonneg _
      have hk1 : (k : Int) < (l.length : Int) := by omega
      obtain ⟨B1, hBB⟩ : ∃ B1 : Nat → Prop, (fun q => q = w.heap.size ∨ q = w.heap.size + 1) = B1 := ⟨_, rfl⟩
      have hN0 : B1 w.heap.size := by rw [← hBB]; exact .inl rfl
      have HBB := Lib.hid hBB
      rw [hBB] at hB hp' hm'
      clear hBB
      obtain ⟨c0, c1, c2, c3, c4, hfr⟩ := id hbox
      go_wp2_with fail
      go_still_tail 5, (by kernel_rfl)
      have hd1 : Chg No wr wr.drew := (Chg.refl No wr).drew
      change wpList _ _ _ _ _ wr.drew
      have hbox1 := hbox.keep hd1
      have hb11 := hb1.keep hd1
      have hp1 := hp'.keep hd1
      have hm1 := hm'.keep hd1
      have hch1 := hch.keep hd1
      have hB1 := hB.keep hd1
      clear c0 c1 c2 c3 c4 hfr hcl hbox hb1 hp' hm' hch hB
      generalize wr.drew = W2 at hbox1 hb11 hp1 hm1 hch1 hB1 ⊢
      clear hd1
      go_wp2_with fail
      refine (l4Step_any B1 _ ck y W2 ⟨_, _, rfl, hp1, hm1⟩ hB1 hokk).mono ?_
      rintro e w3 ⟨v3, rfl, ⟨pv3, mv3, rfl, hp3, hm3⟩, hk3⟩
      rw [← HR.out] at hp3 hm3
      obtain ⟨pa3, pn3, pc3, rfl⟩ := hp3.shape
      obtain ⟨ma3, mn3, mc3, rfl⟩ := hm3.shape
      have hbox3 := hbox1.keep hk3
      obtain ⟨c0, c1, c2, c3, c4, hfr⟩ := id hbox3
      have hfr0 := hfr 0
      have hfr1 := hfr 1
      have hfr2 := hfr 2
      have hfr3 := hfr 3
      have hfr4 := hfr 4
      go_wp2
      go_roundw
      case measure => simp [intOf]; omega
      case rel =>
        rw [HBB.out]
        refine ⟨k + 1, .slice pa3 pn3 pc3, .slice ma3 mn3 mc3, by omega, by go_num, ?_, ?_, ?_, ?_, ?_, (hch1.keep hk3).put5 (fun h => by omega) _ _ _ _ _⟩
        · exact (hB1.keep hk3).keep ((Chg.refl (fun q => q = w.heap.size) _).put5 (fun _ => rfl) _ _ _ _ _)
        · have := hbox3.put5 (.int .i64 (stepC ck y).pol) (.int .i64 (stepC ck y).size) (.slice pa3 pn3 pc3) (.slice ma3 mn3 mc3) (.int .i64 (stepC ck y).hand)
          rw [HR.out]
          exact this
        · exact (hb11.keep hk3).far5 w.heap.size (by omega) _ _ _ _ _
        · exact hp3.step ((Chg.refl (fun q => q = w.heap.size) _).put5 (fun _ => rfl) _ _ _ _ _) (fun q hq => hq ▸ hN0)
        · exact hm3.step ((Chg.refl (fun q => q = w.heap.size) _).put5 (fun _ => rfl) _ _ _ _ _) (fun q hq => hq ▸ hN0)
    · have hkl : k = l.length := by omega
      subst hkl
      rw [List.take_length] at hbox hp' hm' hck
      obtain ⟨cc, hcc⟩ : ∃ cc, runC c l = cc := ⟨_, rfl⟩
      rw [hcc] at hbox hp' hm'
      have HCC := Lib.hid hcc
      clear hck hokk hcc
      obtain ⟨c0, c1, c2, c3, c4, hfr⟩ := id hbox
      obtain ⟨s0, s1, s2, s3, s4, sf⟩ := id hb1
      have sf0 := sf 0
      have sf1 := sf 1
      have sf2 := sf 2
      have sf3 := sf 3
      have sf4 := sf 4
      clear sf hfr
      go_wp2
      obtain ⟨z0, z1, z2, z3, z4, _⟩ := hb1.put5 (.int .i64 cc.pol) (.int .i64 cc.size) (.slice pa' pn' pc') (.slice ma' mn' mc') (.int .i64 cc.hand)
      refine bodyPost_ret (v := .agg #[.int .i64 cc.pol, .int .i64 cc.size, .slice pa' pn' pc', .slice ma' mn' mc', .int .i64 cc.hand]) (by simp [results, Tryz.results127, go_sem, z0, z1, z2, z3, z4]) rfl ?_
      rw [HCC.out]
      refine ⟨_, rfl, ⟨_, _, rfl, ?_, ?_⟩, hch.put5 (fun h => by omega) _ _ _ _ _⟩
      · exact (hp'.step ((Chg.refl (fun q => q = w.heap.size + 1) _).put5 (fun _ => rfl) _ _ _ _ _) (fun q hq => .inr hq)).weak (fun _ e _ => e.elim)
      · exact (hm'.step ((Chg.refl (fun q => q = w.heap.size + 1) _).put5 (fun _ => rfl) _ _ _ _ _) (fun q hq => .inr hq)).weak (fun _ e _ => e.elim)

end Go.Proofs.YtndhijckbponkaaGreatDoor
