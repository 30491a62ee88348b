import Derived.Test.YtndhijckbponkaaGreatQd
import Derived.Test.YtndhijckbponkaaGreatPkX8
import Derived.StillTailTactics
import Derived.Test.YtndhijckbponkaaGreatT
/- the least of a row, a line's table -/
namespace Go.Proofs.YtndhijckbponkaaGreat
open Go.RowKit

set_option maxHeartbeats 1000000 in
theorem l8Least_any (A : Nat → Prop) (v : Value) (l : List Int) (w : World) (h : RI A w v l) (h1 : 1 ≤ l.length) :
    Calls Tryz.prog 81 #[v] w fun e w' => ∃ x : Int, e = .returned (.int .i64 x) ∧ w = w' := by
  obtain ⟨a, cap, rfl, hcap, hmax, hlen, _, hc⟩ := h
  obtain ⟨b, off, rfl, _, _, hcell⟩ := hc (by intro e; simp [e] at h1)
  have hc0 : w.cell? ⟨b, off, none⟩ = some (.int .i64 (l.getD 0 0)) := by have := hcell 0 (by omega); rwa [Nat.add_zero] at this
  have hl0 : (0 : Int) < (l.length : Int) := by omega
  go_enter Tryz.func81, Tryz.ntmps81
  go_wp2_with fail
  go_loop [3, 4] (fun y z => ∃ (k : Nat) (x : Int), k ≤ l.length ∧ z = .int .i64 (k : Int) ∧ y = .int .i64 x) (fun _ z => l.length - (intOf z).toNat)
  case atStart => exact ⟨1, _, h1, rfl, rfl⟩
  case round =>
    obtain ⟨k, x, hk, rfl, rfl⟩ := hrel
    have hk0 : (0 : Int) ≤ (k : Int) := Int.natCast_nonneg _
    clear hc0
    by_cases hlt : k < l.length
    · have hck := hcell k hlt
      have hw1 : IntKind.i64.wrap ((k : Int) + 1) = (k : Int) + 1 := IntWalk.i64_in _ (by omega)
      have hk1 : (k : Int) < (l.length : Int) := by omega
      clear hcell hc
      go_wp2_with (go_at_call 121; refine (l1Least_any _ _ _).mono ?_; rintro e w1 ⟨rfl, rfl⟩)
      go_round
      case rel => exact ⟨k + 1, _, by omega, by go_num, rfl⟩
      case measure => simp [intOf]; omega
    · have hk1 : ¬ (k : Int) < (l.length : Int) := by omega
      clear hcell hc
      go_wp2_with fail
      go_ret
      exact ⟨⟨x, rfl⟩, rfl⟩
theorem Sq.set {n : Nat} {ll : List (List Int)} (h : Sq n ll) {i j : Nat} {x : Int} : Sq n (ll.set i ((ll.getD i []).set j x)) := by
  obtain ⟨h1, h2⟩ := h
  refine ⟨by rw [List.length_set]; exact h1, fun k hk => ?_⟩
  by_cases e : k = i
  · subst e
    rw [List.getD_eq_getElem?_getD, List.getElem?_set_self (by omega)]
    exact (List.length_set ..).trans (h2 k hk)
  · rw [List.getD_eq_getElem?_getD, List.getElem?_set_ne (fun e' => e e'.symm), ← List.getD_eq_getElem?_getD]
    exact h2 k hk
set_option maxRecDepth 100000 in
set_option maxHeartbeats 2000000 in
theorem l6Line_any (v : Value) (l : List Int) (w : World) (h : RI No w v l) (hn : l.length ≤ 1000) :
    Calls Tryz.prog 80 #[v] w (Ret fun r w' => (∃ v ll F, r = .agg #[v] ∧ Sq l.length ll ∧ OII w.heap.size w' v ll F) ∧ Chg No w w') := by
  obtain ⟨a, cap, rfl, hcap, hmax, hlen, _, _⟩ := id h
  obtain ⟨n, hnl⟩ : ∃ n, l.length = n := ⟨_, rfl⟩
  rw [hnl] at hn hcap hlen ⊢
  rw [hnl] at h
  have HNL := Lib.hid hnl
  clear hnl
  go_enter Tryz.func80, Tryz.ntmps80
  go_wp2_with fail
  refine bx1 (R := fun W => Calls _ _ _ W _) (fun W0 k0 b0 => ?_)
  refine (l6Uniform_any n 0 W0 hn).mono ?_
  rintro e w1 ⟨_, rfl, ⟨mv, ll, F, rfl, hsq, ho⟩, k1⟩
  have b01 := b0.keep k1
  have k2 := k0.keep k1
  have hz0 := b0.lt
  have hz1 := k1.size
  have hFz : ∀ q, F q → ¬ q = w1.heap.size ∧ ¬ q = w.heap.size := fun q hq => by have := ho.lt q hq; omega
  have hob := ho.weak (base' := w.heap.size) (by omega)
  clear ho k0 k1 b0
  obtain ⟨ma, mc, rfl⟩ := hob.readNo.shape
  go_wp2_with fail
  have b00 := b01
  refine bx1 (R := fun W => Code.wp _ _ _ _ W) (fun W2 k3 b2 => ?_)
  obtain ⟨X, hX⟩ : ∃ X, w1.heap.size = X := ⟨_, rfl⟩
  rw [hX] at b2 hFz ⊢
  have b0 := b01.keep k3
  have hO := hob.keep k3
  have k4 := k2.keep k3
  rw [hsq.1] at hO b2 ⊢
  have hwX : w.heap.size < X := by omega
  have HF := Lib.hid hFz
  clear b00 b01 hob k3 k2 hX hz1 hFz
  go_loopw [4] (fun z wr => ∃ (i : Nat) (ll : List (List Int)), i ≤ n ∧ z = .int .i64 (i : Int) ∧ Sq n ll ∧ OII w.heap.size wr (.slice ma n mc) ll F ∧ BoxN wr w.heap.size [.slice none 0 0] ∧ BoxN wr X [.slice ma n mc] ∧ Chg No w wr) (fun z _ => n - (intOf z).toNat)
  case atStart => exact ⟨0, ll, Nat.zero_le _, rfl, hsq, hO, b0, b2, k4⟩
  case round =>
    clear b0 b2 hO k4 hsq ll
    obtain ⟨i, ll, hi, rfl, hsq, hO, b0, b2, kr⟩ := hrel
    have hi0 : (0 : Int) ≤ (i : Int) := Int.natCast_nonneg _
    by_cases hlt : i < n
    · have hi1 : (i : Int) < (n : Int) := by omega
      have hwi : IntKind.i64.wrap ((i : Int) + 1) = (i : Int) + 1 := IntWalk.i64_in _ (by omega)
      go_wp2_with fail
      go_loopw [5] (fun z wr => ∃ (j : Nat) (ll : List (List Int)), j ≤ n ∧ z = .int .i64 (j : Int) ∧ Sq n ll ∧ OII w.heap.size wr (.slice ma n mc) ll F ∧ BoxN wr w.heap.size [.slice none 0 0] ∧ BoxN wr X [.slice ma n mc] ∧ Chg No w wr) (fun z _ => n - (intOf z).toNat)
      case atStart => exact ⟨0, ll, Nat.zero_le _, rfl, hsq, hO, b0, b2, kr⟩
      case round =>
        clear b0 b2 hO kr hsq ll
        obtain ⟨j, ll, hj, rfl, hsq, hO, b0, b2, kr⟩ := hrel
        have hj0 : (0 : Int) ≤ (j : Int) := Int.natCast_nonneg _
        by_cases hltj : j < n
        · have hj1 : (j : Int) < (n : Int) := by omega
          have hwj : IntKind.i64.wrap ((j : Int) + 1) = (j : Int) + 1 := IntWalk.i64_in _ (by omega)
          have g2 := b2.c 0 _ rfl
          have hd : Chg No wr wr.drew := (Chg.refl No wr).drew
          have hOd := hO.keep hd
          obtain ⟨Wd, hWd⟩ : ∃ Wd, wr.drew = Wd := ⟨_, rfl⟩
          rw [hWd] at hd hOd
          have hcd : ∀ p, wr.cell? p = Wd.cell? p := fun p => by rw [← hWd]; rfl
          clear hO
          obtain ⟨g, c, r, rc, hv, hg, hrl, hgr, hgb, hrb, hgc, hrcell, hrf, hFg, hFr, hput⟩ := hOd.at (i := i) (by rw [hsq.1]; exact hlt) (by rw [hsq.2 i hlt]; omega)
          rw [hsq.2 i hlt] at hgc hrcell
          simp only [Value.slice.injEq] at hv
          obtain ⟨rfl, hnn, rfl⟩ := hv
          clear hnn
          obtain ⟨y, hy⟩ : ∃ y, (ll.getD i []).getD j 0 = y := ⟨_, rfl⟩
          have hrj := hrcell j hltj
          have hrfj := hrf j
          have hgc' := (hcd _).trans hgc
          have hrj' := (hcd _).trans hrj
          obtain ⟨pb, off, rfl, hpi, hpj⟩ : ∃ pb off, a = some ⟨pb, off, none⟩ ∧ wr.cell? ⟨pb, off + i, none⟩ = some (.int .i64 (l.getD i 0)) ∧ wr.cell? ⟨pb, off + j, none⟩ = some (.int .i64 (l.getD j 0)) := by
            obtain ⟨a', cap', he, _, _, _, _, hc⟩ := h.keep kr
            simp only [Value.slice.injEq] at he
            obtain ⟨rfl, hln, rfl⟩ := he
            obtain ⟨pb, off, rfl, _, _, hcell⟩ := hc (by intro e; simp [e] at hln; omega)
            exact ⟨pb, off, rfl, hcell i (by omega), hcell j (by omega)⟩
          have HWd := Lib.hid hWd
          clear hrcell hrf hcd hWd
          go_wp2_with fail
          go_still_tail 25, (by kernel_rfl)
          still_call ((l1Most_any _ _ _).mono fun _ _ h => ⟨h.1, h.2.symm⟩)
          refine wpStill_nil ?_
          change wpList _ _ _ _ _ wr.drew
          rw [HWd.out]
          have b0 := b0.keep hd
          have b2 := b2.keep hd
          have kr := kr.keep hd
          clear HWd hgc' hrj' hpi hpj g2
          have HH := HF.out r hFr
          go_wp2_with fail
          go_round
          case rel => exact ⟨j + 1, _, by omega, by go_num, hsq.set, hput _ _, b0.far ⟨r, _, none⟩ _ (by simp; omega), b2.far ⟨r, _, none⟩ _ (by simp; omega), kr.setCell (p := ⟨r, _, none⟩) (fun h => by simp at h; omega) _⟩
          case measure => simp [intOf]; omega
        · go_wp2_with fail
          go_round
          case rel => exact ⟨i + 1, _, by omega, by go_num, hsq, hO, b0, b2, kr⟩
          case measure => simp [intOf]; omega
    · have g2 := b2.c 0 _ rfl
      have g0 := b0.c 0 _ rfl
      have f0 := b0.fr 0
      have b0' := b0.set (i := 0) (by simp) (.slice ma n mc)
      have z0 := b0'.c 0 _ rfl
      have h3' := hO.step (chg1 wr w.heap.size 0 (.slice ma n mc)) (fun q hq e => (HF.out q hq).2 e)
      have kr' : Chg No w (wr.setCell ⟨w.heap.size, 0, none⟩ (.slice ma n mc)) := kr.setCell (p := ⟨w.heap.size, 0, none⟩) (fun h => by simp at h) _
      go_wp2_with fail
      refine bodyPost_ret (v := .agg #[.slice ma n mc]) (by simp [results, Tryz.results80, go_sem, z0]) rfl ?_
      exact ⟨_, rfl, ⟨_, ll, F, rfl, hsq, h3'⟩, kr'⟩
end Go.Proofs.YtndhijckbponkaaGreat

/- an operation of a region whose order is drawn, taken first, where operation k waits for it by a chain of others -/
namespace Go.Proofs.YtndhijckbponkaaGreat
open Go.RowKit

theorem drewN0 (w : World) : Chg No w w.drew := (Chg.refl No w).drew
section
variable {P : Program} {ops : Array Oper} {Q : Exit → Act → World → Prop} {md : Region.Mode} {S : World → Prop}
/-- all of B wait, one by another, for i -/
def chainB (md : Region.Mode) (ops : Array Oper) (listed : Array Bool) (B : List Nat) (i : Nat) : Bool := B.all fun b => !listed.getD b true && (i :: B).any (fun c => Region.waitsFor md ops b c) && decide (b ≠ i)
theorem wpAnyK_firstT {k i : Nat} {oi : Oper} {v : Value} (B : List Nat) (hi : ops[i]? = some oi) (hsel : ∀ (j : Nat) (o : Oper) cs b, ops[j]? = some o → o.op ≠ .select cs b)
    (hQ : ∀ c a w, Q (.panic c) (a.put oi.dst v) w → Q (.panic c) a w) (hB : ∀ b ∈ B, b ≠ i ∧ ∃ c, (c = i ∨ c ∈ B) ∧ Region.waitsFor md ops b c = true) (hkB : k ∈ B) :
    ∀ (f : Nat) (listed : Array Bool) (a : Act) (w : World),
      (∀ j oj, ops[j]? = some oj → j ≠ i → listed.getD j true = false → (∀ e ∈ oj.after, Region.binds md e = true → e.on ≠ i) → oi.apart ops oj = true) →
      i ∈ Region.ready md ops listed → (∀ b ∈ B, listed.getD b true = false) → YieldsIf P ops S oi v a → S w →
      wpAnyK P md ops Q S k f (listed.setIfInBounds i true) (a.put oi.dst v) w → wpAnyK P md ops Q S k (f + 1) listed a w := by
  intro f
  induction f with
  | zero =>
    intro listed a w _ hr hl hy hS H
    refine ⟨fun h => (by rw [h] at hr; cases hr), fun j hj => ?_⟩
    by_cases hji : j = i
    · subst hji; exact hy.wpOp hi hS ⟨fun _ => hS, H⟩
    · have := ready_mono hj hji
      rw [H.1] at this
      cases this
  | succ f ih =>
    intro listed a w hfree hr hl hy hS H
    refine ⟨fun h => (by rw [h] at hr; cases hr), fun j hj => ?_⟩
    by_cases hji : j = i
    · subst hji; exact hy.wpOp hi hS ⟨fun _ => hS, H⟩
    · have hun : listed.getD i false = false := getD_both (mem_ready.1 hr).1
      have hjB : j ∉ B := fun hjB => by
        obtain ⟨_, oj, hoj, hall⟩ := mem_ready.1 hj
        obtain ⟨_, c, hc, hw⟩ := hB j hjB
        obtain ⟨oj', hoj', e, he, hb, hon⟩ := Region.waitsFor_spec hw
        have : oj' = oj := Option.some.inj (hoj'.symm.trans hoj)
        subst this
        have h1 := hall e he hb
        have hcu : listed.getD c false = false := by
          rcases hc with rfl | hc
          · exact hun
          · exact getD_both (hl c hc)
        rw [hon, hcu] at h1
        cases h1
      have hki : k ≠ i := (hB k hkB).1
      have hjk : j ≠ k := fun e => hjB (e ▸ hkB)
      have h1 := H.2 j (ready_mono hj hji)
      obtain ⟨hjun, oj, hoj, hall⟩ := mem_ready.1 hj
      have hnot : ∀ e ∈ oj.after, Region.binds md e = true → e.on ≠ i := fun e he hb heq => by
        have h1 := hall e he hb
        rw [heq, hun] at h1
        cases h1
      have h2 := wpOp_putIf hoj (hfree j oj hoj hji hjun hnot) (fun cs b => hsel i oi cs b hi) (fun cs b => hsel j oj cs b hoj) hQ hy h1
      have hl' : ∀ b ∈ B, (listed.setIfInBounds j true).getD b true = false := fun b hb => (getD_set_ne true (show j ≠ b from fun e => hjB (by rw [e]; exact hb))).trans (hl b hb)
      have hl2 : ((listed.setIfInBounds i true).setIfInBounds j true).getD k true = false := by rw [getD_set_ne true hjk, getD_set_ne true (Ne.symm hki)]; exact hl k hkB
      refine wpOp_mono (fun a' w' h3 => ⟨fun _ => h3.2.1 hl2, ih (listed.setIfInBounds j true) a' w' (fun m om hm hmi hmu hno => hfree m om hm hmi (getD_set_in hmu) hno) (ready_mono hr (Ne.symm hji)) hl' h3.1 (h3.2.1 hl2) ?_⟩) h2
      rw [Array.setIfInBounds_comm _ _ hji]
      exact h3.2.2
/-- all that wait for i, one by another -/
def waitersB (md : Region.Mode) (ops : Array Oper) (i : Nat) : List Nat := (List.range ops.size).foldl (fun B b => if (i :: B).any (fun c => Region.waitsFor md ops b c) && decide (b ≠ i) then b :: B else B) []
/-- take number i first; k waits for it, by a chain of others -/
theorem wpAnyK_takeT (i : Nat) {k : Nat} {oi : Oper} (v : Value) {f : Nat} {listed : Array Bool} {a : Act} {w : World} (hi : ops[i]? = some oi)
    (hB : (Region.noSelect ops && Region.free md ops listed i && (Region.ready md ops listed).contains i && chainB md ops listed (waitersB md ops i) i && (waitersB md ops i).contains k) = true)
    (hQ : ∀ c a w, Q (.panic c) (a.put oi.dst v) w → Q (.panic c) a w) (hS : S w) (hg : oi.guard = none) (hy : ∀ w, S w → (execOp a.eval oi).run P w = .ok (.value v) w)
    (h : wpAnyK P md ops Q S k f (listed.setIfInBounds i true) (a.put oi.dst v) w) : wpAnyK P md ops Q S k (f + 1) listed a w := by
  simp only [Bool.and_eq_true] at hB
  obtain ⟨⟨⟨⟨h1, h2⟩, h3⟩, h4⟩, h5⟩ := hB
  simp only [chainB, List.all_eq_true, Bool.and_eq_true, Bool.not_eq_true', decide_eq_true_eq, List.any_eq_true] at h4
  refine wpAnyK_firstT (waitersB md ops i) hi (Region.noSelect_spec h1) hQ (fun b hb => ?_) (by simpa using h5) f listed a w (Region.free_spec hi h2) (by simpa using h3) (fun b hb => (h4 b hb).1.1) (.inl ⟨by simp [Region.wanted, hg], hy⟩) hS h
  obtain ⟨⟨_, c, hc, hw⟩, hne⟩ := h4 b hb
  exact ⟨hne, c, by simpa using hc, hw⟩
end
end Go.Proofs.YtndhijckbponkaaGreat
