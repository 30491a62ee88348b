import Derived.Test.YtccmocbkpanibaaGreatO
/- run of the implementation: what its callback does is a premise -/
namespace Go.Proofs.YtccmocbkpanibaaGreat
open Go.RowKit

/-- what a callback keeps: J j U w: j calls are done, the callback's own blocks are those of U -/
structure Each (f : FuncId) (cv : Value) (c : Ca) (l : List Int) (J : Nat → (Nat → Prop) → World → Prop) : Prop where
  lt : ∀ j U w, J j U w → ∀ q, U q → q < w.heap.size
  keep : ∀ j U w w' S, J j U w → Chg S w w' → (∀ q, U q → ¬ S q) → J j U w'
  call : ∀ j U w xb xa, j < l.length → J j U w → RI U w xb (runC c (l.take j)).pages → RI U w xa (runC c (l.take (j + 1))).pages →
    Calls Tryz.prog f #[.int .i64 (j : Int), xb, xa, .bool (!hasB (runC c (l.take j)).pages (l.getD j 0)), cv] w (Ret fun v' w' => v' = .tuple #[] ∧ ∃ U', J (j + 1) U' w' ∧ Chg U w w' ∧ ∀ q, U' q → U q ∨ w.heap.size ≤ q)

set_option maxRecDepth 100000 in
set_option maxHeartbeats 2000000 in
theorem run_any (f : FuncId) (cv : Value) (p k : Int) (v : Value) (l : List Int) (J : Nat → (Nat → Prop) → World → Prop) (U0 : Nat → Prop) (w : World) (hJ : Each f cv (newC p k) l J) (h0 : J 0 U0 w)
    (hcf : ∀ x0 x1 x2 x3 (w : World), (callFunc f #[x0, x1, x2, x3, cv]).run Tryz.prog w = .ok (.enter f #[x0, x1, x2, x3, cv]) w)
    (hv : RI U0 w v l) (hok : Ok (newC p k)) :
    Calls Tryz.prog 123 #[.int .i64 p, .int .i64 k, v, .func (.func f) #[] #[cv]] w (Ret fun v' w' => v' = .tuple #[] ∧ ∃ U', J l.length U' w' ∧ Chg U0 w w' ∧ ∀ q, U' q → U0 q ∨ w.heap.size ≤ q) := by
  obtain ⟨a, cap, rfl, hcap, hmax, hlen, _, hc⟩ := id hv
  go_enter Tryz.func123, Tryz.ntmps123
  go_wp2_with fail
  go_loopw [18] (fun i wr => ∃ (j : Nat) (pv mv : Value) (U : Nat → Prop), j ≤ l.length ∧ i = .int .i64 j ∧ MC w.heap.size wr w.heap.size (runC (newC p k) (l.take j)) pv mv ∧ J j U wr ∧ Chg U0 w wr ∧
      (∀ q, U q → U0 q ∨ w.heap.size ≤ q) ∧ (∀ q, foot w.heap.size pv mv q → ¬ U q)) (fun i _ => l.length - (intOf i).toNat)
  case atStart =>
    refine ⟨0, .slice none 0 0, .slice none 0 0, U0, Nat.zero_le _, rfl, ⟨Box.new w _ _ _ _ _ _, OI.nil _ _, OI.nil _ _, fun q hq => ?_, fun hq => ?_, fun hq => ?_⟩, hJ.keep _ _ _ _ No h0 ((Chg.refl No w).alloc _) (fun _ _ e => e), (Chg.refl U0 w).alloc _, fun q hq => .inl hq, fun q hq hU => ?_⟩
    · simp [own, Value.ownBlock] at hq
    · simp [own, Value.ownBlock] at hq
    · simp [own, Value.ownBlock] at hq
    · have := hJ.lt _ _ _ h0 q hU
      rcases hq with rfl | hq | hq
      · omega
      · simp [own, Value.ownBlock] at hq
      · simp [own, Value.ownBlock] at hq
  case round =>
    obtain ⟨j, pv, mv, U, hj, rfl, hM, hJj, hch, hU, hdis⟩ := hrel
    by_cases hlt : j < l.length
    · obtain ⟨br, off, rfl, hbr, hbl, hcell⟩ := hc (by intro e; simp [e] at hlt)
      have hcl := (hch.cellD br (off + j) hbl hbr).trans (hcell j hlt)
      obtain ⟨ck, hck⟩ : ∃ ck, runC (newC p k) (l.take j) = ck := ⟨_, rfl⟩
      have hokk : Ok ck := hck ▸ ok_run hok _
      have hrun := runC_snoc (newC p k) l j hlt
      have hcall := hJ.call j U
      have HC0 := hck
      obtain ⟨y, hy⟩ : ∃ y, l[j] = y := ⟨_, rfl⟩
      have hgy : l.getD j 0 = y := by rw [← hy, List.getD_eq_getElem?_getD, List.getElem?_eq_getElem hlt]; rfl
      rw [hck, hy] at hrun
      rw [hrun, hck, hgy] at hcall
      rw [hgy] at hcl
      rw [hck] at hM
      have HR := Lib.hid hrun
      have HC := Lib.hid hcall
      have hj0 : (0 : Int) ≤ (j : Int) := Int.natCast_nonneg _
      have hj1 : (j : Int) < (l.length : Int) := by omega
      have hw1 : IntKind.i64.wrap ((j : Int) + 1) = (j : Int) + 1 := IntWalk.i64_in _ (by omega)
      have HJ := Lib.hid hJ
      have HCF := Lib.hid hcf
      clear hcell hc hrun hcall hck HC0 hgy hy hJ
      obtain ⟨a1, n1, q1, rfl⟩ := hM.pages.shape
      have c2 := hM.box.c2
      go_wp2_with fail
      refine (Clone_any U _ ck.pages wr (hM.pages.read (fun q hq => hdis q (.inr (.inl hq))))).mono ?_
      rintro e w1 ⟨v1, rfl, o1, k1⟩
      have hM1 := hM.keep k1 (fun _ _ e => e)
      clear c2
      go_wp2_with fail
      refine (step_any w.heap.size w.heap.size ck y _ mv w1 hM1 (by have := hch.size; have := k1.size; omega) hokk).mono ?_
      rintro e w2 ⟨v2, rfl, rfl, hA⟩
      obtain ⟨pv2, mv2, A2⟩ := hA.am
      obtain ⟨a2, n2, q2, rfl⟩ := A2.mc.pages.shape
      have c2 := A2.mc.box.c2
      have hz1 := k1.size
      have hz2 := A2.ch.size
      have hd2 : ∀ q, foot w.heap.size (.slice a2 n2 q2) mv2 q → ¬ U q := fun q hq hU' => by
        rcases A2.fr q hq with h1 | h1
        · exact hdis q h1 hU'
        · have := HJ.out.lt _ _ _ hJj q hU'; omega
      go_wp2_with fail
      refine (Clone_any U _ _ w2 (A2.mc.pages.read (fun q hq => hd2 q (.inr (.inl hq))))).mono ?_
      rintro e w3 ⟨v3, rfl, o3, k3⟩
      have hz3 := k3.size
      clear c2
      have hcf := HCF.out
      go_wp2_with fail
      clear hcf
      have hJ3 := HJ.out.keep _ _ _ _ _ (HJ.out.keep _ _ _ _ _ (HJ.out.keep _ _ _ _ No hJj k1 (fun _ _ e => e)) A2.ch (fun q hq hq' => hdis q hq' hq)) k3 (fun _ _ e => e)
      have hlU := HJ.out.lt _ _ _ hJj
      refine (HC.out w3 v1 v3 hlt hJ3 (((o1.step A2.ch (fun q hq hq' => by have := (o1.lt q hq).1; have := hM.footLt q hq'; omega)).keep k3).read (fun q hq hq' => by have := (o1.lt q hq).1; have := hlU q hq'; omega))
        (o3.read (fun q hq hq' => by have := (o3.lt q hq).1; have := hlU q hq'; omega))).mono ?_
      rintro e w4 ⟨v4, rfl, rfl, U4, hJ4, k4, f4⟩
      go_wp2_with fail
      have hlo : ∀ q, foot w.heap.size (.slice a1 n1 q1) mv q → w.heap.size ≤ q := fun q hq => by
        rcases hq with rfl | hq | hq
        · exact Nat.le_refl _
        · exact (hM.pages.lt q hq).1
        · exact (hM.marks.lt q hq).1
      go_round
      case rel =>
        refine ⟨j + 1, .slice a2 n2 q2, mv2, U4, hlt, by go_num, ?_, hJ4, ?_, fun q hq => ?_, fun q hq hq' => ?_⟩
        · rw [HR.out]
          exact (A2.mc.keep k3 (fun _ _ e => e)).keep k4 (fun q hq => hd2 q hq)
        · refine ((((hch.keep k1).step A2.ch (fun q hq hl => ?_)).keep k3).step k4 (fun q hq hl => ?_))
          · have := hlo q hq; omega
          · rcases hU q hq with h1 | h1
            · exact h1
            · omega
        · rcases f4 q hq with h1 | h1
          · exact hU q h1
          · exact .inr (by have := hch.size; omega)
        · rcases f4 q hq' with h1 | h1
          · exact hd2 q hq h1
          · have := (A2.mc.keep k3 (fun _ _ e => e)).footLt q hq; omega
      case measure => simp [intOf]; omega
    · have hj' : j = l.length := by omega
      subst hj'
      go_wp2_with fail
      go_end0
      exact ⟨_, rfl, rfl, U, hJj, hch, hU⟩
end Go.Proofs.YtccmocbkpanibaaGreat
