import Derived.Test.YtodnkkmjjlfoiaaPk4
import Derived.Test.YtodnkkmjjlfoiaaCd
import Derived.Test.YtodnkkmjjlfoiaaPk3
import Derived.Test.YtodnkkmjjlfoiaaPk1
/- lists that are the same; caches that are the same -/
namespace Go.Proofs.Ytodnkkmjjlfoiaa
open Go.RowKit

theorem drewN_chg (w : World) (n : Nat) : Chg No w (w.drewN n) := (Chg.refl No w).drewN n
theorem Equal_any (A B : Nat → Prop) (v v' : Value) (l l' : List Int) (w : World) (h : RI A w v l) (h' : RI B w v' l') :
    Calls Try.prog 33 #[v, v'] w (Ret fun r w' => r = .bool (l == l') ∧ Chg No w w') := by
  have hL := h.len
  have hL' := h'.len
  obtain ⟨a, cap, rfl, hcap, hmax, hlen, _, hc⟩ := id h
  obtain ⟨a', cap', rfl, hcap', hmax', hlen', _, hc'⟩ := id h'
  by_cases hll : l.length = l'.length
  · by_cases hl0 : l = []
    · subst hl0
      have hl' : l' = [] := List.eq_nil_of_length_eq_zero (by simpa using hll.symm)
      subst hl'
      refine (Try.slices_Equal_int_empty a a' cap 0 cap' w (by omega)).mono ?_
      rintro e w' ⟨rfl, rfl⟩
      exact ⟨_, rfl, rfl, Chg.refl _ _⟩
    · have hl0' : l' ≠ [] := fun e => hl0 (List.eq_nil_of_length_eq_zero (by rw [hll, e]; rfl))
      obtain ⟨b, off, rfl, _, _, hcell⟩ := hc hl0
      obtain ⟨b', off', rfl, _, _, hcell'⟩ := hc' hl0'
      refine (Try.slices_Equal_int b off l.length cap b' off' l'.length cap' l l' w (Nat.le_refl _) (Nat.le_refl _) (by omega) (by omega) hcell hcell').mono ?_
      rintro e w' ⟨rfl, q, rfl⟩
      exact ⟨_, rfl, by rw [List.take_length, List.take_length], drewN_chg w q⟩
  · refine (Try.slices_Equal_int_lens a a' l.length cap l'.length cap' w hll).mono ?_
    rintro e w' ⟨rfl, rfl⟩
    refine ⟨_, rfl, ?_, Chg.refl _ _⟩
    have : (l == l') = false := by rw [beq_eq_false_iff_ne]; exact fun e => hll (by rw [e])
    rw [this]

def sameB (a b : Ca) : Bool := a.pol == b.pol && (a.size == b.size && (a.hand == b.hand && (a.pages == b.pages && a.marks == b.marks)))
set_option maxRecDepth 100000 in
set_option maxHeartbeats 1000000 in
theorem sameCaches_any (A B : Nat → Prop) (v v' : Value) (c c' : Ca) (w : World) (h : RC A w v c) (h' : RC B w v' c') :
    Calls Try.prog 19 #[v, v'] w (Ret fun r w' => r = .bool (sameB c c') ∧ Chg No w w') := by
  obtain ⟨pv, mv, rfl, hp, hmk⟩ := h
  obtain ⟨pv', mv', rfl, hp', hmk'⟩ := h'
  obtain ⟨pa, pn, pc, rfl⟩ := hp.shape
  obtain ⟨ma, mn, mc, rfl⟩ := hmk.shape
  obtain ⟨pa', pn', pc', rfl⟩ := hp'.shape
  obtain ⟨ma', mn', mc', rfl⟩ := hmk'.shape
  have k0 := ((Chg.refl No w).alloc (.cells #[.int .i64 c.pol, .int .i64 c.size, .slice pa pn pc, .slice ma mn mc, .int .i64 c.hand] 42)).alloc (.cells #[.int .i64 c'.pol, .int .i64 c'.size, .slice pa' pn' pc', .slice ma' mn' mc', .int .i64 c'.hand] 42)
  cases h1 : c.pol == c'.pol
  · have HS : Hid (sameB c c' = false) := Lib.hid (by simp [sameB, h1])
    go_enter Try.func19, Try.ntmps19
    go_wp2_with fail
    go_ret
    exact ⟨_, rfl, by rw [HS.out]; rfl, k0⟩
  · cases h2 : c.size == c'.size
    · have HS : Hid (sameB c c' = false) := Lib.hid (by simp [sameB, h2])
      go_enter Try.func19, Try.ntmps19
      go_wp2_with fail
      go_ret
      exact ⟨_, rfl, by rw [HS.out]; rfl, k0⟩
    · cases h3 : c.hand == c'.hand
      · have HS : Hid (sameB c c' = false) := Lib.hid (by simp [sameB, h3])
        go_enter Try.func19, Try.ntmps19
        go_wp2_with fail
        go_ret
        exact ⟨_, rfl, by rw [HS.out]; rfl, k0⟩
      · cases h4 : c.pages == c'.pages
        · have HS : Hid (sameB c c' = false) := Lib.hid (by simp only [sameB, h4, Bool.false_and, Bool.and_false])
          have H4 := Lib.hid h4
          clear h4 k0
          go_enter Try.func19, Try.ntmps19
          go_wp2_with fail
          refine boxes2 (R := fun W => Calls _ _ _ W _) (fun W hW b0 b1 => ?_)
          refine (Equal_any A B _ _ _ _ W (hp.keep hW) (hp'.keep hW)).mono ?_
          rintro e w1 ⟨_, rfl, rfl, k1⟩
          rw [H4.out]
          go_wp2_with fail
          go_ret
          exact ⟨_, rfl, by rw [HS.out]; rfl, hW.keep k1⟩
        · have HS : Hid (sameB c c' = (c.marks == c'.marks)) := Lib.hid (by simp only [sameB, h1, h2, h3, h4, Bool.true_and])
          have H4 := Lib.hid h4
          clear h4 k0
          go_enter Try.func19, Try.ntmps19
          go_wp2_with fail
          refine boxes2 (R := fun W => Calls _ _ _ W _) (fun W hW b0 b1 => ?_)
          refine (Equal_any A B _ _ _ _ W (hp.keep hW) (hp'.keep hW)).mono ?_
          rintro e w1 ⟨_, rfl, rfl, k1⟩
          rw [H4.out]
          have hW := hW.keep k1
          obtain ⟨c0, c1, c2, c3, c4, _⟩ := b0.keep k1
          obtain ⟨d0, d1, d2, d3, d4, _⟩ := b1.keep k1
          go_wp2_with fail
          refine (Equal_any A B _ _ _ _ w1 (hmk.keep hW) (hmk'.keep hW)).mono ?_
          rintro e w2 ⟨_, rfl, rfl, k2⟩
          go_wp2_with fail
          go_ret
          exact ⟨_, rfl, by rw [HS.out]; rfl, hW.keep k2⟩
end Go.Proofs.Ytodnkkmjjlfoiaa

/- the run of a cache in the reference -/
namespace Go.Proofs.Ytodnkkmjjlfoiaa
open Go.RowKit

def reqB (n : Int) (l : List Int) : Bool := inB n 1 8 && decide (l.length ≤ 60) && belowB n l
/-- the tail, behind operation k -/
theorem wpAnyK_tailK {P : Program} {Q : Exit → Act → World → Prop} {md : Region.Mode} {S : World → Prop} {k : Nat} (n : Nat) {f : Nat} {l : List Oper} {listed : Array Bool} {a : Act} {w : World} (hf : (l.drop n).length = f) (hB : (Region.seqB md l.toArray f n listed && listed.getD k true) = true)
    (h : wpList P l.toArray Q (l.drop n) a w) : wpAnyK P md l.toArray Q S k f listed a w := by
  subst hf
  simp only [Bool.and_eq_true] at hB
  exact wpAnyK_of_any _ _ _ _ hB.2 (wpAny_of_seq (P := P) (md := md) (Q' := Q) (l.drop n) n listed a w (fun j => by simp [List.getElem?_drop]) hB.1 h)
end Go.Proofs.Ytodnkkmjjlfoiaa

/- a Cache in memory of its own, both sides -/
namespace Go.Proofs.Ytodnkkmjjlfoiaa
open Go.RowKit

set_option maxRecDepth 100000 in
set_option maxHeartbeats 1000000 in
theorem ownCache_any (A : Nat → Prop) (v : Value) (c : Ca) (w : World) (h : RC A w v c) :
    Calls Try.prog 32 #[v] w (Ret fun r w' => RCO w.heap.size w' r c ∧ Chg No w w') := by
  obtain ⟨pv, mv, rfl, hp, hmk⟩ := h
  obtain ⟨pa, pn, pc, rfl⟩ := hp.shape
  obtain ⟨ma, mn, mc, rfl⟩ := hmk.shape
  go_enter Try.func32, Try.ntmps32
  go_wp2_with fail
  refine boxes2 (R := fun W => Code.wp _ _ _ _ W) (fun W hW b0 b1 => ?_)
  refine wp_region_K (S := fun W => W.cell? ⟨w.heap.size, 2, none⟩ = some (.slice pa pn pc) ∧ W.cell? ⟨w.heap.size, 3, none⟩ = some (.slice ma mn mc)) (k := 7) (by kernel_rfl) ?_
  have hl1 := b1.lt
  have hW := hW.drew
  have b0 := b0.keep (Chg.refl No W).drew
  have b1 := b1.keep (Chg.refl No W).drew
  have hl1 : w.heap.size + 1 < W.drew.heap.size := hl1
  generalize W.drew = W at hW b0 b1 hl1 ⊢
  have hS : (fun W : World => W.cell? ⟨w.heap.size, 2, none⟩ = some (.slice pa pn pc) ∧ W.cell? ⟨w.heap.size, 3, none⟩ = some (.slice ma mn mc)) W := ⟨b0.c2, b0.c3⟩
  refine wpAnyK_take0 0 (.pointer (some ⟨w.heap.size, 2, none⟩)) rfl (by kernel_rfl) (fun _ _ _ h => h) hS rfl (by intro w; go_simp) ?_
  simp only [List.getElem_toArray, List.getElem_cons_zero, Act.put, List.setIfInBounds_toArray, List.set_cons_zero, List.set_cons_succ]
  refine wpAnyK_take 1 (.slice pa pn pc) rfl (by kernel_rfl) (fun _ _ _ h => h) hS rfl (by rintro w ⟨s2, s3⟩; go_simp) ?_
  simp only [List.getElem_toArray, List.getElem_cons_succ, List.getElem_cons_zero, Act.put, List.setIfInBounds_toArray, List.set_cons_zero, List.set_cons_succ]
  refine wpAnyK_take0 3 (.pointer (some ⟨w.heap.size, 3, none⟩)) rfl (by kernel_rfl) (fun _ _ _ h => h) hS rfl (by intro w; go_simp) ?_
  simp only [List.getElem_toArray, List.getElem_cons_succ, List.getElem_cons_zero, Act.put, List.setIfInBounds_toArray, List.set_cons_zero, List.set_cons_succ]
  refine wpAnyK_take 4 (.slice ma mn mc) rfl (by kernel_rfl) (fun _ _ _ h => h) hS rfl (by rintro w ⟨s2, s3⟩; go_simp) ?_
  simp only [List.getElem_toArray, List.getElem_cons_succ, List.getElem_cons_zero, Act.put, List.setIfInBounds_toArray, List.set_cons_zero, List.set_cons_succ]
  refine wpAnyK_1 2 (by kernel_rfl) (wpOpK' rfl rfl ?_)
  intro K hK
  refine ocall (f := 23) (args := #[.slice pa pn pc]) (by go_simp) (Clone_any A _ _ W (hp.keep hW)) (fun v1 w1 h1 => hK.out _ _ ⟨(b0.keep h1.2).c2, (b0.keep h1.2).c3⟩ ?_)
  obtain ⟨o1, k1⟩ := h1
  clear hK K
  simp only [List.getElem_toArray, List.getElem_cons_succ, List.getElem_cons_zero, Act.put, List.setIfInBounds_toArray, List.set_cons_zero, List.set_cons_succ]
  have b0 := b0.keep k1
  have b1 := b1.keep k1
  have hW1 := hW.keep k1
  have hz1 := k1.size
  have hS : (fun W : World => W.cell? ⟨w.heap.size, 2, none⟩ = some (.slice pa pn pc) ∧ W.cell? ⟨w.heap.size, 3, none⟩ = some (.slice ma mn mc)) w1 := ⟨b0.c2, b0.c3⟩
  refine wpAnyK_take0 6 (.pointer (some ⟨w.heap.size, 2, none⟩)) rfl (by kernel_rfl) (fun _ _ _ h => h) hS rfl (by intro w; go_simp) ?_
  simp only [List.getElem_toArray, List.getElem_cons_succ, List.getElem_cons_zero, Act.put, List.setIfInBounds_toArray, List.set_cons_zero, List.set_cons_succ]
  refine wpAnyK_1 5 (by kernel_rfl) (wpOpK' rfl rfl ?_)
  intro K hK
  refine ocall (f := 23) (args := #[.slice ma mn mc]) (by go_simp) (Clone_any A _ _ w1 (hmk.keep hW1)) (fun v2 w2 h2 => hK.out _ _ ⟨(b0.keep h2.2).c2, (b0.keep h2.2).c3⟩ ?_)
  obtain ⟨o2, k2⟩ := h2
  clear hK K hS
  simp only [List.getElem_toArray, List.getElem_cons_succ, List.getElem_cons_zero, Act.put, List.setIfInBounds_toArray, List.set_cons_zero, List.set_cons_succ]
  have b0 := b0.keep k2
  have b1 := b1.keep k2
  have o1L := o1.lt
  have o1 := o1.keep k2
  have hW2 := hW1.keep k2
  obtain ⟨a1, n1, q1, rfl⟩ := o1.shape
  obtain ⟨a2, n2, q2, rfl⟩ := o2.shape
  have hs2 := hW2.size
  have z2 := b0.c2
  have y2 := b0.fr 2
  have B2 := b0.set2 (.slice a1 n1 q1)
  have z3 := B2.c3
  have y3 := B2.fr 3
  have B3 := B2.set3 (.slice a2 n2 q2)
  refine wpAnyK_tail 7 rfl (by kernel_rfl) ?_
  simp only [List.drop_succ_cons, List.drop_zero]
  obtain ⟨r0, r1, r2, r3, r4, _⟩ := id B3
  have B1 := (b1.far ⟨w.heap.size, 2, none⟩ (.slice a1 n1 q1) (by simp)).far ⟨w.heap.size, 3, none⟩ (.slice a2 n2 q2) (by simp)
  obtain ⟨s0, s1, s2, s3, s4, sf⟩ := id B1
  have sf0 := sf 0
  have sf1 := sf 1
  have sf2 := sf 2
  have sf3 := sf 3
  have sf4 := sf 4
  clear sf
  go_wp2_with fail
  obtain ⟨z0, z1, z2, z3, z4, _⟩ := B1.put5 (.int .i64 c.pol) (.int .i64 c.size) (.slice a1 n1 q1) (.slice a2 n2 q2) (.int .i64 c.hand)
  refine bodyPost_ret (v := .agg #[.int .i64 c.pol, .int .i64 c.size, .slice a1 n1 q1, .slice a2 n2 q2, .int .i64 c.hand]) (by simp [results, Try.results32, go_sem, z0, z1, z2, z3, z4]) rfl ?_
  have hk := ((hW2.setCell (p := ⟨w.heap.size, 2, none⟩) (fun h => by simp at h) (.slice a1 n1 q1)).setCell (p := ⟨w.heap.size, 3, none⟩) (fun h => by simp at h) (.slice a2 n2 q2)).put5 (b := w.heap.size + 1) (fun h => by omega) (.int .i64 c.pol) (.int .i64 c.size) (.slice a1 n1 q1) (.slice a2 n2 q2) (.int .i64 c.hand)
  have far : ∀ {v : Value} {l : List Int} {base : Nat}, OI base w2 v l → W.heap.size ≤ base → OI w.heap.size _ v l := fun {v l base} h hb =>
    (((h.far (b := w.heap.size) (by omega) 2 (.slice a1 n1 q1)).far (b := w.heap.size) (by omega) 3 (.slice a2 n2 q2)).put5 (b := w.heap.size + 1) (fun q hq e => by have := (h.lt q hq).1; omega) (.int .i64 c.pol) (.int .i64 c.size) (.slice a1 n1 q1) (.slice a2 n2 q2) (.int .i64 c.hand)).weak (by omega)
  exact ⟨_, rfl, ⟨_, _, rfl, far o1 (Nat.le_refl _), far o2 hz1, fun q h1 h2 => by have := (o1L q h1).2; have := (o2.lt q h2).1; omega⟩, hk⟩
end Go.Proofs.Ytodnkkmjjlfoiaa
