import Derived.Test.YtndhijckbponkaaGreatDoorBt
import Derived.Test.YtndhijckbponkaaGreatDoorT
/- a Tournament of the call's own: copied, marked; a list of [2]int compared, marked, looked at -/
namespace Go.Proofs.YtndhijckbponkaaGreatDoor
open Go.RowKit

theorem PO.weak {base base' g n : Nat} {ls : List Pl} {pf mf : Nat → Value} {w : World} (h : PO base g n ls pf mf w) (hb : base' ≤ base) : PO base' g n ls pf mf w :=
  ⟨h.len, h.lt, Nat.le_trans hb h.low, h.fr, h.cell, fun i hi => (h.pg i hi).weak hb, fun i hi => (h.mq i hi).weak hb, h.far, h.apart, h.dis⟩
def markT (k : Int) (t : To) : To := ⟨t.items, mkTo k t.ps t.ps.length, marks (k + totPl t.ps) t.reqs.length⟩
end Go.Proofs.YtndhijckbponkaaGreatDoor

/- a marked Tournament looked at -/
namespace Go.Proofs.YtndhijckbponkaaGreatDoor
open Go.RowKit

set_option maxRecDepth 100000 in
set_option maxHeartbeats 4000000 in
theorem heldPlayerS_any (v : Value) (ls : List Pl) (k : Int) (w : World) (h : RPS No w v (mkTo k ls ls.length)) (hk : 0 ≤ k) (hk' : k + totPl ls ≤ 100000000) :
    Calls Tryz.prog 50 #[v, .int .i64 k] w (Ret fun r w' => r = .int .i64 (k + totPl ls) ∧ Chg No w w') := by
  have hml := mkTo_len k ls ls.length
  obtain ⟨a, cap, rfl, hcap, hmax, hlen, pf, mf, hl, hcl⟩ := id h
  rw [hml] at hcap hlen hl ⊢
  have hcl' : ls.length ≠ 0 → ∃ b off, a = some ⟨b, off, none⟩ ∧ b < w.heap.size ∧ ∀ i, i < ls.length → Cell7 w b (off + i * 7) ((mkTo k ls ls.length).getD i dPl) (pf i) (mf i) := fun hne => by
    obtain ⟨b, off, h1, _, h2, h3⟩ := hcl (fun e => hne (by have := congrArg List.length e; rw [hml] at this; simpa using this))
    exact ⟨b, off, h1, h2, fun i hi => h3 i (by rw [hml]; exact hi)⟩
  have HL := Lib.hid hl
  have HC := Lib.hid hcl'
  clear hl hcl hcl' hml
  go_enter Tryz.func50, Tryz.ntmps50
  go_wp2_with fail
  go_loopw [1, 5] (fun s i wr => ∃ j : Nat, j ≤ ls.length ∧ i = .int .i64 (j : Int) ∧ s = .int .i64 (k + totPl (ls.take j)) ∧ wr = w) (fun _ i _ => ls.length - (intOf i).toNat)
  case atStart => exact ⟨0, Nat.zero_le _, rfl, by simp [totPl], rfl⟩
  case round =>
    obtain ⟨j, hj, rfl, rfl, rfl⟩ := hrel
    have hj0 : (0 : Int) ≤ (j : Int) := Int.natCast_nonneg _
    by_cases hlt : j < ls.length
    · have hj1 : (j : Int) < (ls.length : Int) := by omega
      have hwj : IntKind.i64.wrap ((j : Int) + 1) = (j : Int) + 1 := IntWalk.i64_in _ (by omega)
      obtain ⟨b, off, rfl, hb, hcell⟩ := HC.out (by omega)
      have h7 := hcell j hlt
      obtain ⟨hpj, hmj⟩ := HL.out j hlt
      have hbl := mkTo_below k ls ls.length (Nat.le_refl _) j hlt
      have hsn := totPl_snoc ls j hlt
      have hle := totPl_le ls (j + 1)
      obtain ⟨x, hx⟩ : ∃ x, ls.getD j dPl = x := ⟨_, rfl⟩
      obtain ⟨K, hK⟩ : ∃ K : Int, k + totPl (ls.take j) = K := ⟨_, rfl⟩
      rw [hx] at hbl hsn
      rw [hK] at hbl ⊢
      rw [hbl] at h7 hpj hmj
      have hsz : szPl x = 5 + x.ca.pages.length + x.ca.marks.length := rfl
      obtain ⟨np, hnp⟩ : ∃ np, x.ca.pages.length = np := ⟨_, rfl⟩
      obtain ⟨nm, hnm⟩ : ∃ nm, x.ca.marks.length = nm := ⟨_, rfl⟩
      rw [hnp, hnm] at hsz
      have hKe : k + (totPl (ls.take (j + 1)) : Int) = K + 3 + np + nm + 1 + 1 := by omega
      have hK0 : 0 ≤ K := by omega
      have hK1 : K + 5 + np + nm ≤ 100000000 := by omega
      have HKE := Lib.hid hKe
      unfold mkPl at h7 hpj hmj
      rw [hnp, hnm] at h7
      simp only [hnp, hnm] at hpj hmj
      have hw1 : IntKind.i64.wrap (K + 1) = K + 1 := IntWalk.i64_in _ (by omega)
      have hw2 : IntKind.i64.wrap (K + 1 + 1) = K + 2 := (IntWalk.i64_in _ (by omega)).trans (by omega)
      have hw3 : IntKind.i64.wrap (K + 2 + 1) = K + 3 := (IntWalk.i64_in _ (by omega)).trans (by omega)
      have hw4 : IntKind.i64.wrap (K + 3 + (np : Int) + (nm : Int) + 1) = K + 3 + np + nm + 1 := IntWalk.i64_in _ (by omega)
      have hw5 : IntKind.i64.wrap (K + 3 + (np : Int) + (nm : Int) + 1 + 1) = K + 3 + np + nm + 1 + 1 := IntWalk.i64_in _ (by omega)
      have hng1 : ¬ K + 3 + (np : Int) < 0 := by omega
      have hng2 : ¬ K + 3 + (np : Int) + (nm : Int) < 0 := by omega
      generalize pf j = pj at hpj h7
      generalize mf j = mj at hmj h7
      obtain ⟨ya, yn, yc, rfl⟩ := hpj.shape
      obtain ⟨za, zn, zc, rfl⟩ := hmj.shape
      obtain ⟨c0, c1, c2, c3, c4, c5, c6⟩ := id h7
      clear hcell hx hK hbl hsn hle hsz hKe h7 hnp hnm
      go_wp2_with fail
      refine (heldIntS_any No _ np (K + 3) _ hpj (by omega)).mono ?_
      rintro e w1 ⟨rfl, rfl⟩
      go_wp2_with fail
      refine (heldIntS_any No _ nm (K + 3 + np) _ hmj (by omega)).mono ?_
      rintro e w1 ⟨rfl, rfl⟩
      go_wp2_with fail
      go_round
      case measure => simp [intOf]; omega
      case rel => exact ⟨j + 1, by omega, by go_num, by rw [HKE.out], by trivial⟩
    · have hje : j = ls.length := by omega
      subst hje
      rw [List.take_length]
      go_wp2_with fail
      go_ret
      exact ⟨_, rfl, rfl, Chg.refl _ _⟩

set_option maxRecDepth 100000 in
set_option maxHeartbeats 1000000 in
theorem heldTournament_any (v : Value) (t : To) (k : Int) (w : World) (h : RT No w v (markT k t)) (hk : 0 ≤ k) (hk' : k + totPl t.ps ≤ 100000000) :
    Calls Tryz.prog 14 #[v, .int .i64 k] w (Ret fun r w' => r = .int .i64 (k + totPl t.ps + t.reqs.length) ∧ Chg No w w') := by
  obtain ⟨it, ps, rq⟩ := t
  obtain ⟨pv, rv, rfl, hps, hrq⟩ := h
  simp only [markT] at hps hrq hk' ⊢
  obtain ⟨ra, rn, rc, rfl⟩ := hrq.shape
  obtain ⟨pa, pn, pc, rfl⟩ := hps.shape
  have k0 := (Chg.refl No w).alloc (.cells #[.int .i64 it, .slice pa pn pc, .slice ra rn rc] 31)
  have b0 := Box3.new w (.int .i64 it) (.slice pa pn pc) (.slice ra rn rc) 31
  obtain ⟨c0, c1, c2, _⟩ := id b0
  have hn1 : ¬ k + (totPl ps : Int) < 0 := by omega
  have hn2 : ¬ k + (totPl ps : Int) + (rq.length : Int) < 0 := by omega
  go_enter Tryz.func14, Tryz.ntmps14
  go_wp2_with fail
  refine (heldPlayerS_any _ ps k _ (hps.keep k0) hk hk').mono ?_
  rintro e w1 ⟨_, rfl, rfl, k1⟩
  have b0 := b0.keep k1
  have kk := k0.keep k1
  clear c0 c1 c2
  obtain ⟨c0, c1, c2, _⟩ := id b0
  go_wp2_with fail
  refine (heldIntS_any No _ rq.length (k + totPl ps) w1 (hrq.keep kk) (by omega)).mono ?_
  rintro e w2 ⟨rfl, rfl⟩
  go_wp2_with fail
  go_ret
  exact ⟨_, rfl, rfl, kk⟩
end Go.Proofs.YtndhijckbponkaaGreatDoor

/- guarded operations of a region whose order is drawn: taken first, skipped, entered -/
namespace Go.Proofs.YtndhijckbponkaaGreatDoor
open Go.RowKit

section
variable {P : Program} {ops : Array Oper} {Q : Exit → Act → World → Prop} {md : Region.Mode} {S : World → Prop}
end
theorem ocallR {o : Oper} {a : Act} {K : Act → World → Prop} {Q : Exit → Act → World → Prop} {w : World} {f : FuncId} {args : Array Value} {v : Value} {φ : World → Prop}
    (ho : (execOp a.eval o).run Tryz.prog w = .ok (.enter f args) w) (h : Calls Tryz.prog f args w fun e w' => e = .returned v ∧ φ w') (hk : ∀ w', φ w' → K (a.put o.dst v) w') : Oper.wp Tryz.prog o a w K Q := by
  unfold Oper.wp
  rw [ho]
  refine h.mono (fun e w' hr => ?_)
  obtain ⟨rfl, hp⟩ := hr
  exact hk w' hp
end Go.Proofs.YtndhijckbponkaaGreatDoor

/- an operation of a region whose order is drawn, taken first, where operation k waits for it by a chain of others -/
namespace Go.Proofs.YtndhijckbponkaaGreatDoor
open Go.RowKit

theorem drewN0 (w : World) : Chg No w w.drew := (Chg.refl No w).drew
section
variable {P : Program} {ops : Array Oper} {Q : Exit → Act → World → Prop} {md : Region.Mode} {S : World → Prop}
/-- all of B wait, one by another, for i -/
def chainB (md : Region.Mode) (ops : Array Oper) (listed : Array Bool) (B : List Nat) (i : Nat) : Bool := B.all fun b => !listed.getD b true && (i :: B).any (fun c => Region.waitsFor md ops b c) && decide (b ≠ i)
theorem wpAnyK_firstT {k i : Nat} {oi : Oper} {v : Value} (B : List Nat) (hi : ops[i]? = some oi) (hsel : ∀ (j : Nat) (o : Oper) cs b, ops[j]? = some o → o.op ≠ .select cs b)
    (hQ : ∀ c a w, Q (.panic c) (a.put oi.dst v) w → Q (.panic c) a w) (hB : ∀ b ∈ B, b ≠ i ∧ ∃ c, (c = i ∨ c ∈ B) ∧ Region.waitsFor md ops b c = true) (hkB : k ∈ B) :
    ∀ (f : Nat) (listed : Array Bool) (a : Act) (w : World),
      (∀ j oj, ops[j]? = some oj → j ≠ i → listed.getD j true = false → (∀ e ∈ oj.after, Region.binds md e = true → e.on ≠ i) → oi.apart ops oj = true) →
      i ∈ Region.ready md ops listed → (∀ b ∈ B, listed.getD b true = false) → YieldsIf P ops S oi v a → S w →
      wpAnyK P md ops Q S k f (listed.setIfInBounds i true) (a.put oi.dst v) w → wpAnyK P md ops Q S k (f + 1) listed a w := by
  intro f
  induction f with
  | zero =>
    intro listed a w _ hr hl hy hS H
    refine ⟨fun h => (by rw [h] at hr; cases hr), fun j hj => ?_⟩
    by_cases hji : j = i
    · subst hji; exact hy.wpOp hi hS ⟨fun _ => hS, H⟩
    · have := ready_mono hj hji
      rw [H.1] at this
      cases this
  | succ f ih =>
    intro listed a w hfree hr hl hy hS H
    refine ⟨fun h => (by rw [h] at hr; cases hr), fun j hj => ?_⟩
    by_cases hji : j = i
    · subst hji; exact hy.wpOp hi hS ⟨fun _ => hS, H⟩
    · have hun : listed.getD i false = false := getD_both (mem_ready.1 hr).1
      have hjB : j ∉ B := fun hjB => by
        obtain ⟨_, oj, hoj, hall⟩ := mem_ready.1 hj
        obtain ⟨_, c, hc, hw⟩ := hB j hjB
        obtain ⟨oj', hoj', e, he, hb, hon⟩ := Region.waitsFor_spec hw
        have : oj' = oj := Option.some.inj (hoj'.symm.trans hoj)
        subst this
        have h1 := hall e he hb
        have hcu : listed.getD c false = false := by
          rcases hc with rfl | hc
          · exact hun
          · exact getD_both (hl c hc)
        rw [hon, hcu] at h1
        cases h1
      have hki : k ≠ i := (hB k hkB).1
      have hjk : j ≠ k := fun e => hjB (e ▸ hkB)
      have h1 := H.2 j (ready_mono hj hji)
      obtain ⟨hjun, oj, hoj, hall⟩ := mem_ready.1 hj
      have hnot : ∀ e ∈ oj.after, Region.binds md e = true → e.on ≠ i := fun e he hb heq => by
        have h1 := hall e he hb
        rw [heq, hun] at h1
        cases h1
      have h2 := wpOp_putIf hoj (hfree j oj hoj hji hjun hnot) (fun cs b => hsel i oi cs b hi) (fun cs b => hsel j oj cs b hoj) hQ hy h1
      have hl' : ∀ b ∈ B, (listed.setIfInBounds j true).getD b true = false := fun b hb => (getD_set_ne true (show j ≠ b from fun e => hjB (by rw [e]; exact hb))).trans (hl b hb)
      have hl2 : ((listed.setIfInBounds i true).setIfInBounds j true).getD k true = false := by rw [getD_set_ne true hjk, getD_set_ne true (Ne.symm hki)]; exact hl k hkB
      refine wpOp_mono (fun a' w' h3 => ⟨fun _ => h3.2.1 hl2, ih (listed.setIfInBounds j true) a' w' (fun m om hm hmi hmu hno => hfree m om hm hmi (getD_set_in hmu) hno) (ready_mono hr (Ne.symm hji)) hl' h3.1 (h3.2.1 hl2) ?_⟩) h2
      rw [Array.setIfInBounds_comm _ _ hji]
      exact h3.2.2
/-- all that wait for i, one by another -/
def waitersB (md : Region.Mode) (ops : Array Oper) (i : Nat) : List Nat := (List.range ops.size).foldl (fun B b => if (i :: B).any (fun c => Region.waitsFor md ops b c) && decide (b ≠ i) then b :: B else B) []
/-- take number i first; k waits for it, by a chain of others -/
theorem wpAnyK_takeT (i : Nat) {k : Nat} {oi : Oper} (v : Value) {f : Nat} {listed : Array Bool} {a : Act} {w : World} (hi : ops[i]? = some oi)
    (hB : (Region.noSelect ops && Region.free md ops listed i && (Region.ready md ops listed).contains i && chainB md ops listed (waitersB md ops i) i && (waitersB md ops i).contains k) = true)
    (hQ : ∀ c a w, Q (.panic c) (a.put oi.dst v) w → Q (.panic c) a w) (hS : S w) (hg : oi.guard = none) (hy : ∀ w, S w → (execOp a.eval oi).run P w = .ok (.value v) w)
    (h : wpAnyK P md ops Q S k f (listed.setIfInBounds i true) (a.put oi.dst v) w) : wpAnyK P md ops Q S k (f + 1) listed a w := by
  simp only [Bool.and_eq_true] at hB
  obtain ⟨⟨⟨⟨h1, h2⟩, h3⟩, h4⟩, h5⟩ := hB
  simp only [chainB, List.all_eq_true, Bool.and_eq_true, Bool.not_eq_true', decide_eq_true_eq, List.any_eq_true] at h4
  refine wpAnyK_firstT (waitersB md ops i) hi (Region.noSelect_spec h1) hQ (fun b hb => ?_) (by simpa using h5) f listed a w (Region.free_spec hi h2) (by simpa using h3) (fun b hb => (h4 b hb).1.1) (.inl ⟨by simp [Region.wanted, hg], hy⟩) hS h
  obtain ⟨⟨_, c, hc, hw⟩, hne⟩ := h4 b hb
  exact ⟨hne, c, by simpa using hc, hw⟩
end
end Go.Proofs.YtndhijckbponkaaGreatDoor
