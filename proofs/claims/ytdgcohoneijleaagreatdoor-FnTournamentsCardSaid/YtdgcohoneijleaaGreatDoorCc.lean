import Derived.Test.YtdgcohoneijleaaGreatDoorCb
namespace Go.Proofs.YtdgcohoneijleaaGreatDoor
open Go.RowKit
theorem wp_cut {P : Program} {c : Code} {Q : Exit → Act → World → Prop} {a : Act} {w : World} (R : Act → World → Prop) (h : c.wp P (fun e a' w' => match e with | .normal => R a' w' | e => Q e a' w') a w) (hq : ∀ a' w', R a' w' → Q .normal a' w') : c.wp P Q a w := by
 refine Code.wp_mono (fun e a' w' h => ?_) h
 cases e with
 | normal => exact hq a' w' h
 | _ => exact h
theorem PA.snocF {w1 : World} {v v2 : Value} {n : Nat} {pf mf : Nat → Value} {pv mv : Value} {b : Nat} (hp : ∀ q, own pv q → b ≤ q) (hm : ∀ q, own mv q → b ≤ q) (hb : b ≤ w1.heap.size) (hn : ∀ k, own v2 k → own v k ∨ w1.heap.size ≤ k) (q : Nat)
  (h : FA v2 (n + 1) (fun i => if i = n then pv else pf i) (fun i => if i = n then mv else mf i) q) : FA v n pf mf q ∨ b ≤ q := by
 rcases h with h | ⟨i, hi, h⟩
 ·rcases hn q h with h | h
  ·exact .inl (.inl h)
  ·exact .inr (by omega)
 ·by_cases e : i = n
  ·subst e; simp only [if_true] at h
   exact .inr (h.elim (hp q) (hm q))
  ·simp only [if_neg e] at h
   exact .inl (.inr ⟨i, by omega, h⟩)
theorem wpAnyK_3 {P : Program} {ops : Array Oper} {Q : Exit → Act → World → Prop} {md : Region.Mode} {S : World → Prop} {k f : Nat} (i i' i'' : Nat) {listed : Array Bool} {a : Act} {w : World} (hr : Region.ready md ops listed = [i, i', i''])
  (h : wpOp P ops Q i (fun a' w' => ((listed.setIfInBounds i true).getD k true = false → S w') ∧ wpAnyK P md ops Q S k f (listed.setIfInBounds i true) a' w') a w)
  (h' : wpOp P ops Q i' (fun a' w' => ((listed.setIfInBounds i' true).getD k true = false → S w') ∧ wpAnyK P md ops Q S k f (listed.setIfInBounds i' true) a' w') a w)
  (h'' : wpOp P ops Q i'' (fun a' w' => ((listed.setIfInBounds i'' true).getD k true = false → S w') ∧ wpAnyK P md ops Q S k f (listed.setIfInBounds i'' true) a' w') a w) : wpAnyK P md ops Q S k (f + 1) listed a w :=
 ⟨fun e => by (rw [hr] at e; cases e), fun j hj => by
  rw [hr] at hj
  have e : j = i ∨ j = i' ∨ j = i'' := by simpa using hj
  rcases e with rfl | rfl | rfl
  ·exact h
  ·exact h'
  ·exact h''⟩
set_option maxRecDepth 100000 in
set_option maxHeartbeats 8000000 in
theorem l12With_any (v rv : Value) (t : To) (l : List Int) (w : World) (h : RT No w v t) (hr : RI No w rv l) (hs : Sv t.ps l) :
  Calls Tryz.prog 113 #[v, rv] w (Ret fun r w' => TA w.heap.size w' r ⟨t.items, againP t.ps l, l⟩ ∧ Chg No w w') := by
 obtain ⟨it, ps, rq⟩ := t
 obtain ⟨pv, qv, rfl, hps, hrq⟩ := h
 simp only at hps hrq hs ⊢
 obtain ⟨qa, qn, qc, rfl⟩ := hrq.shape
 obtain ⟨ra, rc, rfl, _⟩ := id hr
 obtain ⟨a, cap, rfl, hcap, hmax, hlen, pf, mf, hl, hcl⟩ := id hps
 have HL := Lib.hid hl
 have HC := Lib.hid hcl
 have HS := Lib.hid hs
 clear hl hcl hs hrq
 go_enter Tryz.func113, Tryz.ntmps113
 go_wp2_with fail
 refine boxes32 (R := fun W => Code.wp _ _ _ _ W) (fun W kk b2 b4 => ?_)
 refine wp_cut (fun a' w' => ∃ (B5 G : Nat) (za : Option Addr) (zn zc : Nat), a' = { tmps := #[.agg #[.int .i64 it, .slice a ps.length cap, .slice qa qn qc], .slice ra l.length rc, .pointer (some ⟨w.heap.size, 0, none⟩), undef, .pointer (some ⟨w.heap.size + 1, 0, none⟩), .pointer (some ⟨B5, 0, none⟩), undef, undef,
   .pointer (some ⟨w.heap.size, 0, none⟩), .int .i64 it, .slice (some ⟨G, 0, none⟩) 0 0, .slice ra l.length rc, .slice za zn zc, .agg #[.int .i64 it, .slice (some ⟨G, 0, none⟩) 0 0, .slice za zn zc], undef, undef, undef, undef, undef, undef, undef, undef, undef, undef, undef, undef, undef, undef, undef, undef, undef, undef, undef, undef, undef, undef, undef, undef, undef, undef, undef, undef], defers := [] } ∧
   Chg No w w' ∧ Box3 w' w.heap.size (.int .i64 it) (.slice a ps.length cap) (.slice qa qn qc) ∧ Box3 w' (w.heap.size + 1) (.int .i64 0) (.slice none 0 0) (.slice none 0 0) ∧ Box3 w' B5 (.int .i64 it) (.slice (some ⟨G, 0, none⟩) 0 0) (.slice za zn zc) ∧
   OS 68 7 (w.heap.size + 2) w' (.slice (some ⟨G, 0, none⟩) 0 0) 0 [] ∧ OI (w.heap.size + 2) w' (.slice za zn zc) l ∧ (∀ q, own (.slice za zn zc) q → q ≠ B5) ∧ G ≠ B5 ∧ (¬ own (.slice za zn zc) G) ∧ w.heap.size + 1 < B5) ?_ ?_
 ·refine wp_region_K (S := fun W => Box3 W w.heap.size (.int .i64 it) (.slice a ps.length cap) (.slice qa qn qc)) (k := 7) (by kernel_rfl) ?_
  replace kk := kk.keep (drewN0 _)
  replace b2 := b2.keep (drewN0 _)
  replace b4 := b4.keep (drewN0 _)
  generalize W.drew = WR at kk b2 b4 ⊢
  have hS := b2
  refine wpAnyK_take0 0 (.pointer (some ⟨w.heap.size, 0, none⟩)) rfl (by kernel_rfl) (fun _ _ _ h => h) hS rfl (by intro w; go_simp) ?_
  simp only [zA, zC, zD, zE, zF, zG]
  refine wpAnyK_take 1 (.int .i64 it) rfl (by kernel_rfl) (fun _ _ _ h => h) hS rfl (by rintro w ⟨c0, c1, c2, fr⟩; go_simp) ?_
  simp only [zA, zB, zC, zD, zE, zF, zG]
  refine wpAnyK_take0 3 (.slice ra l.length rc) rfl (by kernel_rfl) (fun _ _ _ h => h) hS rfl (by intro w; go_simp) ?_
  simp only [zA, zB, zC, zD, zE, zF, zG]
  refine wpAnyK_3 2 4 6 (by kernel_rfl) (wpOpK' rfl rfl ?_) (wpOpK' rfl rfl ?_) (wpOpK' rfl rfl ?_)
  ·skip
   intro K hK
   unfold Oper.wp execOp
   go_simp
   have kx := (Chg.refl No WR).alloc (.cells #[] 68)
   refine hK.out _ _ (b2.keep kx) ?_
   clear hK K hS
   simp only [zE]
   have oG := OS.zero (E := 68) (sz := 7) (base := w.heap.size + 2) (w := WR) (by have := b4.lt; omega)
   obtain ⟨G, hG⟩ : ∃ G, WR.heap.size = G := ⟨_, rfl⟩
   try have hGB : G ≠ B5 := by have := b5.lt; omega
   try have hGc : ¬ own (.slice za zn zc) G := fun e => by have := (o1.lt _ e).2; omega
   rw [hG] at oG ⊢
   replace kk := kk.keep kx
   replace b2 := b2.keep kx
   replace b4 := b4.keep kx
   try replace b5 := b5.keep kx
   try replace o1 := o1.keep kx
   clear kx hG
   generalize WR.alloc (.cells #[] 68) = WR at *
   have hS := b2
   refine wpAnyK_2 4 6 (by kernel_rfl) (wpOpK' rfl rfl ?_) (wpOpK' rfl rfl ?_)
   ·skip
    intro K hK
    refine ocall (f := 114) (args := #[.slice ra l.length rc]) (by go_simp) (l1Own_any No _ l WR (hr.keep kk)) (fun v1 WQ h1 => hK.out _ _ (b2.keep h1.2) ?_)
    obtain ⟨o1, kx⟩ := h1
    clear hK K hS
    simp only [zA, zB, zC, zD, zE, zF, zG]
    obtain ⟨za, zn, zc, rfl⟩ := o1.shape
    try have hne : ∀ q, own (.slice za zn zc) q → q ≠ B5 := fun q hq e => by have := (o1.lt q hq).1; have := b5.lt; omega
    try have hGc : ¬ own (.slice za zn zc) G := fun e => by have := (o1.lt _ e).1; have := (oG.lt G (own_slice.2 rfl)).2; omega
    have hlw := b4.lt
    replace o1 := o1.weak (base' := w.heap.size + 2) (by omega)
    replace kk := kk.keep kx
    replace b2 := b2.keep kx
    replace b4 := b4.keep kx
    try replace b5 := b5.keep kx
    try replace oG := oG.keep kx
    clear kx hlw
    generalize WQ = WR at *
    have hS := b2
    refine wpAnyK_take0 5 (.agg #[.int .i64 it, .slice (some ⟨G, 0, none⟩) 0 0, .slice za zn zc]) rfl (by kernel_rfl) (fun _ _ _ h => h) hS rfl (by intro w; go_simp) ?_
    simp only [zA, zB, zC, zD, zE, zF, zG]
    refine wpAnyK_1 6 (by kernel_rfl) (wpOpK' rfl rfl ?_)
    intro K hK
    unfold Oper.wp execOp
    go_simp
    have kx := (Chg.refl No WR).alloc (.cells #[.int .i64 0, .slice none 0 0, .slice none 0 0] 31)
    refine hK.out _ _ (b2.keep kx) ?_
    clear hK K hS
    simp only [zE]
    have b5 := Box3.new WR (.int .i64 0) (.slice none 0 0) (.slice none 0 0) 31
    obtain ⟨B5, hB5⟩ : ∃ B5, WR.heap.size = B5 := ⟨_, rfl⟩
    have hB4 : w.heap.size + 1 < B5 := by have := b4.lt; omega
    try have hGB : G ≠ B5 := by have := (oG.lt G (own_slice.2 rfl)).2; omega
    try have hne : ∀ q, own (.slice za zn zc) q → q ≠ B5 := fun q hq e => by have := (o1.lt q hq).2; omega
    rw [hB5] at b5 ⊢
    replace kk := kk.keep kx
    replace b2 := b2.keep kx
    replace b4 := b4.keep kx
    try replace oG := oG.keep kx
    try replace o1 := o1.keep kx
    clear kx hB5
    generalize WR.alloc (.cells #[.int .i64 0, .slice none 0 0, .slice none 0 0] 31) = WR at *
    have hS := b2
    refine wpAnyK_tail 7 rfl (by kernel_rfl) ?_
    simp only [List.drop_succ_cons, List.drop_zero]
    have bN := ((b5.set0 (.int .i64 it)).set1 (.slice (some ⟨G, 0, none⟩) 0 0)).set2 (.slice za zn zc)
    have cN : Chg (fun q => q = B5) WR (((WR.setCell ⟨B5, 0, none⟩ (.int .i64 it)).setCell ⟨B5, 1, none⟩ (.slice (some ⟨G, 0, none⟩) 0 0)).setCell ⟨B5, 2, none⟩ (.slice za zn zc)) :=
     (((Chg.refl (fun q => q = B5) WR).setCell (p := ⟨B5, 0, none⟩) (fun _ => rfl) _).setCell (p := ⟨B5, 1, none⟩) (fun _ => rfl) _).setCell (p := ⟨B5, 2, none⟩) (fun _ => rfl) _
    have hb50 := b5.c0
    have hb51 := b5.c1
    have hb52 := b5.c2
    have hb53 := b5.fr
    have HEND := Lib.hid (And.intro (kk.step cN (fun q hq hl => by omega)) (And.intro (b2.step cN (by omega)) (And.intro (b4.step cN (by omega)) (And.intro bN (And.intro (oG.step cN (fun q hq e => hGB ((own_slice.1 hq).symm.trans e))) (o1.step cN hne))))))
    clear cN b5 b2 b4 kk oG o1 bN hS
    go_wp2_with fail
    exact ⟨B5, G, za, zn, zc, by simp, HEND.out.1, HEND.out.2.1, HEND.out.2.2.1, HEND.out.2.2.2.1, HEND.out.2.2.2.2.1, HEND.out.2.2.2.2.2, hne, hGB, hGc, hB4⟩
   ·skip
    intro K hK
    unfold Oper.wp execOp
    go_simp
    have kx := (Chg.refl No WR).alloc (.cells #[.int .i64 0, .slice none 0 0, .slice none 0 0] 31)
    refine hK.out _ _ (b2.keep kx) ?_
    clear hK K hS
    simp only [zE]
    have b5 := Box3.new WR (.int .i64 0) (.slice none 0 0) (.slice none 0 0) 31
    obtain ⟨B5, hB5⟩ : ∃ B5, WR.heap.size = B5 := ⟨_, rfl⟩
    have hB4 : w.heap.size + 1 < B5 := by have := b4.lt; omega
    try have hGB : G ≠ B5 := by have := (oG.lt G (own_slice.2 rfl)).2; omega
    try have hne : ∀ q, own (.slice za zn zc) q → q ≠ B5 := fun q hq e => by have := (o1.lt q hq).2; omega
    rw [hB5] at b5 ⊢
    replace kk := kk.keep kx
    replace b2 := b2.keep kx
    replace b4 := b4.keep kx
    try replace oG := oG.keep kx
    try replace o1 := o1.keep kx
    clear kx hB5
    generalize WR.alloc (.cells #[.int .i64 0, .slice none 0 0, .slice none 0 0] 31) = WR at *
    have hS := b2
    refine wpAnyK_1 4 (by kernel_rfl) (wpOpK' rfl rfl ?_)
    intro K hK
    refine ocall (f := 114) (args := #[.slice ra l.length rc]) (by go_simp) (l1Own_any No _ l WR (hr.keep kk)) (fun v1 WQ h1 => hK.out _ _ (b2.keep h1.2) ?_)
    obtain ⟨o1, kx⟩ := h1
    clear hK K hS
    simp only [zA, zB, zC, zD, zE, zF, zG]
    obtain ⟨za, zn, zc, rfl⟩ := o1.shape
    try have hne : ∀ q, own (.slice za zn zc) q → q ≠ B5 := fun q hq e => by have := (o1.lt q hq).1; have := b5.lt; omega
    try have hGc : ¬ own (.slice za zn zc) G := fun e => by have := (o1.lt _ e).1; have := (oG.lt G (own_slice.2 rfl)).2; omega
    have hlw := b4.lt
    replace o1 := o1.weak (base' := w.heap.size + 2) (by omega)
    replace kk := kk.keep kx
    replace b2 := b2.keep kx
    replace b4 := b4.keep kx
    try replace b5 := b5.keep kx
    try replace oG := oG.keep kx
    clear kx hlw
    generalize WQ = WR at *
    have hS := b2
    refine wpAnyK_take0 5 (.agg #[.int .i64 it, .slice (some ⟨G, 0, none⟩) 0 0, .slice za zn zc]) rfl (by kernel_rfl) (fun _ _ _ h => h) hS rfl (by intro w; go_simp) ?_
    simp only [zA, zB, zC, zD, zE, zF, zG]
    refine wpAnyK_tail 7 rfl (by kernel_rfl) ?_
    simp only [List.drop_succ_cons, List.drop_zero]
    have bN := ((b5.set0 (.int .i64 it)).set1 (.slice (some ⟨G, 0, none⟩) 0 0)).set2 (.slice za zn zc)
    have cN : Chg (fun q => q = B5) WR (((WR.setCell ⟨B5, 0, none⟩ (.int .i64 it)).setCell ⟨B5, 1, none⟩ (.slice (some ⟨G, 0, none⟩) 0 0)).setCell ⟨B5, 2, none⟩ (.slice za zn zc)) :=
     (((Chg.refl (fun q => q = B5) WR).setCell (p := ⟨B5, 0, none⟩) (fun _ => rfl) _).setCell (p := ⟨B5, 1, none⟩) (fun _ => rfl) _).setCell (p := ⟨B5, 2, none⟩) (fun _ => rfl) _
    have hb50 := b5.c0
    have hb51 := b5.c1
    have hb52 := b5.c2
    have hb53 := b5.fr
    have HEND := Lib.hid (And.intro (kk.step cN (fun q hq hl => by omega)) (And.intro (b2.step cN (by omega)) (And.intro (b4.step cN (by omega)) (And.intro bN (And.intro (oG.step cN (fun q hq e => hGB ((own_slice.1 hq).symm.trans e))) (o1.step cN hne))))))
    clear cN b5 b2 b4 kk oG o1 bN hS
    go_wp2_with fail
    exact ⟨B5, G, za, zn, zc, by simp, HEND.out.1, HEND.out.2.1, HEND.out.2.2.1, HEND.out.2.2.2.1, HEND.out.2.2.2.2.1, HEND.out.2.2.2.2.2, hne, hGB, hGc, hB4⟩
  ·skip
   intro K hK
   refine ocall (f := 114) (args := #[.slice ra l.length rc]) (by go_simp) (l1Own_any No _ l WR (hr.keep kk)) (fun v1 WQ h1 => hK.out _ _ (b2.keep h1.2) ?_)
   obtain ⟨o1, kx⟩ := h1
   clear hK K hS
   simp only [zA, zB, zC, zD, zE, zF, zG]
   obtain ⟨za, zn, zc, rfl⟩ := o1.shape
   try have hne : ∀ q, own (.slice za zn zc) q → q ≠ B5 := fun q hq e => by have := (o1.lt q hq).1; have := b5.lt; omega
   try have hGc : ¬ own (.slice za zn zc) G := fun e => by have := (o1.lt _ e).1; have := (oG.lt G (own_slice.2 rfl)).2; omega
   have hlw := b4.lt
   replace o1 := o1.weak (base' := w.heap.size + 2) (by omega)
   replace kk := kk.keep kx
   replace b2 := b2.keep kx
   replace b4 := b4.keep kx
   try replace b5 := b5.keep kx
   try replace oG := oG.keep kx
   clear kx hlw
   generalize WQ = WR at *
   have hS := b2
   refine wpAnyK_2 2 6 (by kernel_rfl) (wpOpK' rfl rfl ?_) (wpOpK' rfl rfl ?_)
   ·skip
    intro K hK
    unfold Oper.wp execOp
    go_simp
    have kx := (Chg.refl No WR).alloc (.cells #[] 68)
    refine hK.out _ _ (b2.keep kx) ?_
    clear hK K hS
    simp only [zE]
    have oG := OS.zero (E := 68) (sz := 7) (base := w.heap.size + 2) (w := WR) (by have := b4.lt; omega)
    obtain ⟨G, hG⟩ : ∃ G, WR.heap.size = G := ⟨_, rfl⟩
    try have hGB : G ≠ B5 := by have := b5.lt; omega
    try have hGc : ¬ own (.slice za zn zc) G := fun e => by have := (o1.lt _ e).2; omega
    rw [hG] at oG ⊢
    replace kk := kk.keep kx
    replace b2 := b2.keep kx
    replace b4 := b4.keep kx
    try replace b5 := b5.keep kx
    try replace o1 := o1.keep kx
    clear kx hG
    generalize WR.alloc (.cells #[] 68) = WR at *
    have hS := b2
    refine wpAnyK_take0 5 (.agg #[.int .i64 it, .slice (some ⟨G, 0, none⟩) 0 0, .slice za zn zc]) rfl (by kernel_rfl) (fun _ _ _ h => h) hS rfl (by intro w; go_simp) ?_
    simp only [zA, zB, zC, zD, zE, zF, zG]
    refine wpAnyK_1 6 (by kernel_rfl) (wpOpK' rfl rfl ?_)
    intro K hK
    unfold Oper.wp execOp
    go_simp
    have kx := (Chg.refl No WR).alloc (.cells #[.int .i64 0, .slice none 0 0, .slice none 0 0] 31)
    refine hK.out _ _ (b2.keep kx) ?_
    clear hK K hS
    simp only [zE]
    have b5 := Box3.new WR (.int .i64 0) (.slice none 0 0) (.slice none 0 0) 31
    obtain ⟨B5, hB5⟩ : ∃ B5, WR.heap.size = B5 := ⟨_, rfl⟩
    have hB4 : w.heap.size + 1 < B5 := by have := b4.lt; omega
    try have hGB : G ≠ B5 := by have := (oG.lt G (own_slice.2 rfl)).2; omega
    try have hne : ∀ q, own (.slice za zn zc) q → q ≠ B5 := fun q hq e => by have := (o1.lt q hq).2; omega
    rw [hB5] at b5 ⊢
    replace kk := kk.keep kx
    replace b2 := b2.keep kx
    replace b4 := b4.keep kx
    try replace oG := oG.keep kx
    try replace o1 := o1.keep kx
    clear kx hB5
    generalize WR.alloc (.cells #[.int .i64 0, .slice none 0 0, .slice none 0 0] 31) = WR at *
    have hS := b2
    refine wpAnyK_tail 7 rfl (by kernel_rfl) ?_
    simp only [List.drop_succ_cons, List.drop_zero]
    have bN := ((b5.set0 (.int .i64 it)).set1 (.slice (some ⟨G, 0, none⟩) 0 0)).set2 (.slice za zn zc)
    have cN : Chg (fun q => q = B5) WR (((WR.setCell ⟨B5, 0, none⟩ (.int .i64 it)).setCell ⟨B5, 1, none⟩ (.slice (some ⟨G, 0, none⟩) 0 0)).setCell ⟨B5, 2, none⟩ (.slice za zn zc)) :=
     (((Chg.refl (fun q => q = B5) WR).setCell (p := ⟨B5, 0, none⟩) (fun _ => rfl) _).setCell (p := ⟨B5, 1, none⟩) (fun _ => rfl) _).setCell (p := ⟨B5, 2, none⟩) (fun _ => rfl) _
    have hb50 := b5.c0
    have hb51 := b5.c1
    have hb52 := b5.c2
    have hb53 := b5.fr
    have HEND := Lib.hid (And.intro (kk.step cN (fun q hq hl => by omega)) (And.intro (b2.step cN (by omega)) (And.intro (b4.step cN (by omega)) (And.intro bN (And.intro (oG.step cN (fun q hq e => hGB ((own_slice.1 hq).symm.trans e))) (o1.step cN hne))))))
    clear cN b5 b2 b4 kk oG o1 bN hS
    go_wp2_with fail
    exact ⟨B5, G, za, zn, zc, by simp, HEND.out.1, HEND.out.2.1, HEND.out.2.2.1, HEND.out.2.2.2.1, HEND.out.2.2.2.2.1, HEND.out.2.2.2.2.2, hne, hGB, hGc, hB4⟩
   ·skip
    intro K hK
    unfold Oper.wp execOp
    go_simp
    have kx := (Chg.refl No WR).alloc (.cells #[.int .i64 0, .slice none 0 0, .slice none 0 0] 31)
    refine hK.out _ _ (b2.keep kx) ?_
    clear hK K hS
    simp only [zE]
    have b5 := Box3.new WR (.int .i64 0) (.slice none 0 0) (.slice none 0 0) 31
    obtain ⟨B5, hB5⟩ : ∃ B5, WR.heap.size = B5 := ⟨_, rfl⟩
    have hB4 : w.heap.size + 1 < B5 := by have := b4.lt; omega
    try have hGB : G ≠ B5 := by have := (oG.lt G (own_slice.2 rfl)).2; omega
    try have hne : ∀ q, own (.slice za zn zc) q → q ≠ B5 := fun q hq e => by have := (o1.lt q hq).2; omega
    rw [hB5] at b5 ⊢
    replace kk := kk.keep kx
    replace b2 := b2.keep kx
    replace b4 := b4.keep kx
    try replace oG := oG.keep kx
    try replace o1 := o1.keep kx
    clear kx hB5
    generalize WR.alloc (.cells #[.int .i64 0, .slice none 0 0, .slice none 0 0] 31) = WR at *
    have hS := b2
    refine wpAnyK_1 2 (by kernel_rfl) (wpOpK' rfl rfl ?_)
    intro K hK
    unfold Oper.wp execOp
    go_simp
    have kx := (Chg.refl No WR).alloc (.cells #[] 68)
    refine hK.out _ _ (b2.keep kx) ?_
    clear hK K hS
    simp only [zE]
    have oG := OS.zero (E := 68) (sz := 7) (base := w.heap.size + 2) (w := WR) (by have := b4.lt; omega)
    obtain ⟨G, hG⟩ : ∃ G, WR.heap.size = G := ⟨_, rfl⟩
    try have hGB : G ≠ B5 := by have := b5.lt; omega
    try have hGc : ¬ own (.slice za zn zc) G := fun e => by have := (o1.lt _ e).2; omega
    rw [hG] at oG ⊢
    replace kk := kk.keep kx
    replace b2 := b2.keep kx
    replace b4 := b4.keep kx
    try replace b5 := b5.keep kx
    try replace o1 := o1.keep kx
    clear kx hG
    generalize WR.alloc (.cells #[] 68) = WR at *
    have hS := b2
    refine wpAnyK_take0 5 (.agg #[.int .i64 it, .slice (some ⟨G, 0, none⟩) 0 0, .slice za zn zc]) rfl (by kernel_rfl) (fun _ _ _ h => h) hS rfl (by intro w; go_simp) ?_
    simp only [zA, zB, zC, zD, zE, zF, zG]
    refine wpAnyK_tail 7 rfl (by kernel_rfl) ?_
    simp only [List.drop_succ_cons, List.drop_zero]
    have bN := ((b5.set0 (.int .i64 it)).set1 (.slice (some ⟨G, 0, none⟩) 0 0)).set2 (.slice za zn zc)
    have cN : Chg (fun q => q = B5) WR (((WR.setCell ⟨B5, 0, none⟩ (.int .i64 it)).setCell ⟨B5, 1, none⟩ (.slice (some ⟨G, 0, none⟩) 0 0)).setCell ⟨B5, 2, none⟩ (.slice za zn zc)) :=
     (((Chg.refl (fun q => q = B5) WR).setCell (p := ⟨B5, 0, none⟩) (fun _ => rfl) _).setCell (p := ⟨B5, 1, none⟩) (fun _ => rfl) _).setCell (p := ⟨B5, 2, none⟩) (fun _ => rfl) _
    have hb50 := b5.c0
    have hb51 := b5.c1
    have hb52 := b5.c2
    have hb53 := b5.fr
    have HEND := Lib.hid (And.intro (kk.step cN (fun q hq hl => by omega)) (And.intro (b2.step cN (by omega)) (And.intro (b4.step cN (by omega)) (And.intro bN (And.intro (oG.step cN (fun q hq e => hGB ((own_slice.1 hq).symm.trans e))) (o1.step cN hne))))))
    clear cN b5 b2 b4 kk oG o1 bN hS
    go_wp2_with fail
    exact ⟨B5, G, za, zn, zc, by simp, HEND.out.1, HEND.out.2.1, HEND.out.2.2.1, HEND.out.2.2.2.1, HEND.out.2.2.2.2.1, HEND.out.2.2.2.2.2, hne, hGB, hGc, hB4⟩
  ·skip
   intro K hK
   unfold Oper.wp execOp
   go_simp
   have kx := (Chg.refl No WR).alloc (.cells #[.int .i64 0, .slice none 0 0, .slice none 0 0] 31)
   refine hK.out _ _ (b2.keep kx) ?_
   clear hK K hS
   simp only [zE]
   have b5 := Box3.new WR (.int .i64 0) (.slice none 0 0) (.slice none 0 0) 31
   obtain ⟨B5, hB5⟩ : ∃ B5, WR.heap.size = B5 := ⟨_, rfl⟩
   have hB4 : w.heap.size + 1 < B5 := by have := b4.lt; omega
   try have hGB : G ≠ B5 := by have := (oG.lt G (own_slice.2 rfl)).2; omega
   try have hne : ∀ q, own (.slice za zn zc) q → q ≠ B5 := fun q hq e => by have := (o1.lt q hq).2; omega
   rw [hB5] at b5 ⊢
   replace kk := kk.keep kx
   replace b2 := b2.keep kx
   replace b4 := b4.keep kx
   try replace oG := oG.keep kx
   try replace o1 := o1.keep kx
   clear kx hB5
   generalize WR.alloc (.cells #[.int .i64 0, .slice none 0 0, .slice none 0 0] 31) = WR at *
   have hS := b2
   refine wpAnyK_2 2 4 (by kernel_rfl) (wpOpK' rfl rfl ?_) (wpOpK' rfl rfl ?_)
   ·skip
    intro K hK
    unfold Oper.wp execOp
    go_simp
    have kx := (Chg.refl No WR).alloc (.cells #[] 68)
    refine hK.out _ _ (b2.keep kx) ?_
    clear hK K hS
    simp only [zE]
    have oG := OS.zero (E := 68) (sz := 7) (base := w.heap.size + 2) (w := WR) (by have := b4.lt; omega)
    obtain ⟨G, hG⟩ : ∃ G, WR.heap.size = G := ⟨_, rfl⟩
    try have hGB : G ≠ B5 := by have := b5.lt; omega
    try have hGc : ¬ own (.slice za zn zc) G := fun e => by have := (o1.lt _ e).2; omega
    rw [hG] at oG ⊢
    replace kk := kk.keep kx
    replace b2 := b2.keep kx
    replace b4 := b4.keep kx
    try replace b5 := b5.keep kx
    try replace o1 := o1.keep kx
    clear kx hG
    generalize WR.alloc (.cells #[] 68) = WR at *
    have hS := b2
    refine wpAnyK_1 4 (by kernel_rfl) (wpOpK' rfl rfl ?_)
    intro K hK
    refine ocall (f := 114) (args := #[.slice ra l.length rc]) (by go_simp) (l1Own_any No _ l WR (hr.keep kk)) (fun v1 WQ h1 => hK.out _ _ (b2.keep h1.2) ?_)
    obtain ⟨o1, kx⟩ := h1
    clear hK K hS
    simp only [zA, zB, zC, zD, zE, zF, zG]
    obtain ⟨za, zn, zc, rfl⟩ := o1.shape
    try have hne : ∀ q, own (.slice za zn zc) q → q ≠ B5 := fun q hq e => by have := (o1.lt q hq).1; have := b5.lt; omega
    try have hGc : ¬ own (.slice za zn zc) G := fun e => by have := (o1.lt _ e).1; have := (oG.lt G (own_slice.2 rfl)).2; omega
    have hlw := b4.lt
    replace o1 := o1.weak (base' := w.heap.size + 2) (by omega)
    replace kk := kk.keep kx
    replace b2 := b2.keep kx
    replace b4 := b4.keep kx
    try replace b5 := b5.keep kx
    try replace oG := oG.keep kx
    clear kx hlw
    generalize WQ = WR at *
    have hS := b2
    refine wpAnyK_take0 5 (.agg #[.int .i64 it, .slice (some ⟨G, 0, none⟩) 0 0, .slice za zn zc]) rfl (by kernel_rfl) (fun _ _ _ h => h) hS rfl (by intro w; go_simp) ?_
    simp only [zA, zB, zC, zD, zE, zF, zG]
    refine wpAnyK_tail 7 rfl (by kernel_rfl) ?_
    simp only [List.drop_succ_cons, List.drop_zero]
    have bN := ((b5.set0 (.int .i64 it)).set1 (.slice (some ⟨G, 0, none⟩) 0 0)).set2 (.slice za zn zc)
    have cN : Chg (fun q => q = B5) WR (((WR.setCell ⟨B5, 0, none⟩ (.int .i64 it)).setCell ⟨B5, 1, none⟩ (.slice (some ⟨G, 0, none⟩) 0 0)).setCell ⟨B5, 2, none⟩ (.slice za zn zc)) :=
     (((Chg.refl (fun q => q = B5) WR).setCell (p := ⟨B5, 0, none⟩) (fun _ => rfl) _).setCell (p := ⟨B5, 1, none⟩) (fun _ => rfl) _).setCell (p := ⟨B5, 2, none⟩) (fun _ => rfl) _
    have hb50 := b5.c0
    have hb51 := b5.c1
    have hb52 := b5.c2
    have hb53 := b5.fr
    have HEND := Lib.hid (And.intro (kk.step cN (fun q hq hl => by omega)) (And.intro (b2.step cN (by omega)) (And.intro (b4.step cN (by omega)) (And.intro bN (And.intro (oG.step cN (fun q hq e => hGB ((own_slice.1 hq).symm.trans e))) (o1.step cN hne))))))
    clear cN b5 b2 b4 kk oG o1 bN hS
    go_wp2_with fail
    exact ⟨B5, G, za, zn, zc, by simp, HEND.out.1, HEND.out.2.1, HEND.out.2.2.1, HEND.out.2.2.2.1, HEND.out.2.2.2.2.1, HEND.out.2.2.2.2.2, hne, hGB, hGc, hB4⟩
   ·skip
    intro K hK
    refine ocall (f := 114) (args := #[.slice ra l.length rc]) (by go_simp) (l1Own_any No _ l WR (hr.keep kk)) (fun v1 WQ h1 => hK.out _ _ (b2.keep h1.2) ?_)
    obtain ⟨o1, kx⟩ := h1
    clear hK K hS
    simp only [zA, zB, zC, zD, zE, zF, zG]
    obtain ⟨za, zn, zc, rfl⟩ := o1.shape
    try have hne : ∀ q, own (.slice za zn zc) q → q ≠ B5 := fun q hq e => by have := (o1.lt q hq).1; have := b5.lt; omega
    try have hGc : ¬ own (.slice za zn zc) G := fun e => by have := (o1.lt _ e).1; have := (oG.lt G (own_slice.2 rfl)).2; omega
    have hlw := b4.lt
    replace o1 := o1.weak (base' := w.heap.size + 2) (by omega)
    replace kk := kk.keep kx
    replace b2 := b2.keep kx
    replace b4 := b4.keep kx
    try replace b5 := b5.keep kx
    try replace oG := oG.keep kx
    clear kx hlw
    generalize WQ = WR at *
    have hS := b2
    refine wpAnyK_1 2 (by kernel_rfl) (wpOpK' rfl rfl ?_)
    intro K hK
    unfold Oper.wp execOp
    go_simp
    have kx := (Chg.refl No WR).alloc (.cells #[] 68)
    refine hK.out _ _ (b2.keep kx) ?_
    clear hK K hS
    simp only [zE]
    have oG := OS.zero (E := 68) (sz := 7) (base := w.heap.size + 2) (w := WR) (by have := b4.lt; omega)
    obtain ⟨G, hG⟩ : ∃ G, WR.heap.size = G := ⟨_, rfl⟩
    try have hGB : G ≠ B5 := by have := b5.lt; omega
    try have hGc : ¬ own (.slice za zn zc) G := fun e => by have := (o1.lt _ e).2; omega
    rw [hG] at oG ⊢
    replace kk := kk.keep kx
    replace b2 := b2.keep kx
    replace b4 := b4.keep kx
    try replace b5 := b5.keep kx
    try replace o1 := o1.keep kx
    clear kx hG
    generalize WR.alloc (.cells #[] 68) = WR at *
    have hS := b2
    refine wpAnyK_take0 5 (.agg #[.int .i64 it, .slice (some ⟨G, 0, none⟩) 0 0, .slice za zn zc]) rfl (by kernel_rfl) (fun _ _ _ h => h) hS rfl (by intro w; go_simp) ?_
    simp only [zA, zB, zC, zD, zE, zF, zG]
    refine wpAnyK_tail 7 rfl (by kernel_rfl) ?_
    simp only [List.drop_succ_cons, List.drop_zero]
    have bN := ((b5.set0 (.int .i64 it)).set1 (.slice (some ⟨G, 0, none⟩) 0 0)).set2 (.slice za zn zc)
    have cN : Chg (fun q => q = B5) WR (((WR.setCell ⟨B5, 0, none⟩ (.int .i64 it)).setCell ⟨B5, 1, none⟩ (.slice (some ⟨G, 0, none⟩) 0 0)).setCell ⟨B5, 2, none⟩ (.slice za zn zc)) :=
     (((Chg.refl (fun q => q = B5) WR).setCell (p := ⟨B5, 0, none⟩) (fun _ => rfl) _).setCell (p := ⟨B5, 1, none⟩) (fun _ => rfl) _).setCell (p := ⟨B5, 2, none⟩) (fun _ => rfl) _
    have hb50 := b5.c0
    have hb51 := b5.c1
    have hb52 := b5.c2
    have hb53 := b5.fr
    have HEND := Lib.hid (And.intro (kk.step cN (fun q hq hl => by omega)) (And.intro (b2.step cN (by omega)) (And.intro (b4.step cN (by omega)) (And.intro bN (And.intro (oG.step cN (fun q hq e => hGB ((own_slice.1 hq).symm.trans e))) (o1.step cN hne))))))
    clear cN b5 b2 b4 kk oG o1 bN hS
    go_wp2_with fail
    exact ⟨B5, G, za, zn, zc, by simp, HEND.out.1, HEND.out.2.1, HEND.out.2.2.1, HEND.out.2.2.2.1, HEND.out.2.2.2.2.1, HEND.out.2.2.2.2.2, hne, hGB, hGc, hB4⟩
 ·rintro _ W9 ⟨B5, G, za, zn, zc, rfl, kk, b2, b4, b5, oG, o1, hne, hGB, hGc, hB4⟩
  obtain ⟨c0, c1, c2, _⟩ := id b2
  go_wp2_with fail
  clear c0 c1 c2
  have hB5b : B5 < W9.heap.size := b5.lt
  have hcl0 : ∀ q, own (.slice za zn zc) q → q < W9.heap.size := fun q hq => (o1.lt q hq).2
  obtain ⟨base, hbase⟩ : ∃ base, W9.heap.size = base := ⟨_, rfl⟩
  rw [hbase] at hB5b hcl0
  have hp0 : PA (w.heap.size + 2) W9 (.slice (some ⟨G, 0, none⟩) 0 0) (againP (ps.take 0) l) pf mf := by
   rw [List.take_zero]; exact PA.nil _ W9 oG pf mf
  have hf0 : ∀ q, FA (.slice (some ⟨G, 0, none⟩) 0 0) (againP (ps.take 0) l).length pf mf q → q ≠ B5 ∧ ¬ own (.slice za zn zc) q := fun q hq => by
   rcases hq with hq | ⟨i, hi, _⟩
   ·have e := own_slice.1 hq
    subst e; exact ⟨hGB, hGc⟩
   ·rw [List.take_zero] at hi; exact absurd hi (Nat.not_lt_zero i)
  go_loopw [6] (fun z wr => ∃ (j : Nat) (ov : Value) (pg mg : Nat → Value), j ≤ ps.length ∧ z = .int .i64 (j : Int) ∧ Chg No w wr ∧ base ≤ wr.heap.size ∧ Box3 wr w.heap.size (.int .i64 it) (.slice a ps.length cap) (.slice qa qn qc) ∧ Box3 wr (w.heap.size + 1) (.int .i64 0) (.slice none 0 0) (.slice none 0 0) ∧
    Box3 wr B5 (.int .i64 it) ov (.slice za zn zc) ∧ PA (w.heap.size + 2) wr ov (againP (ps.take j) l) pg mg ∧ OI (w.heap.size + 2) wr (.slice za zn zc) l ∧ (∀ q, FA ov (againP (ps.take j) l).length pg mg q → q ≠ B5 ∧ ¬ own (.slice za zn zc) q)) (fun z _ => ps.length - (intOf z).toNat)
  case atStart => exact ⟨0, _, _, _, Nat.zero_le _, rfl, kk, by omega, b2, b4, b5, hp0, o1, hf0⟩
  case round =>
   clear kk b2 b4 b5 hp0 o1 hbase oG hf0 hGB hGc
   obtain ⟨j, ov, pg, mg, hj, rfl, kk, hbw, b2, b4, b5, hP, o1, hF⟩ := hrel
   have hj0 : (0 : Int) ≤ (j : Int) := Int.natCast_nonneg _
   obtain ⟨c0, c1, c2, _⟩ := id b2
   by_cases hlt : j < ps.length
   ·obtain ⟨b, off, rfl, _, hb, hcell⟩ := HC.out (by intro e; simp [e] at hlt)
    have h7 := (hcell j hlt).step kk hb (fun e => e)
    obtain ⟨hpj, hmj⟩ := HL.out j hlt
    obtain ⟨⟨hfr1, hfr2⟩, hok⟩ := HS.out j hlt
    have hsn := againP_snoc ps l j hlt
    have hlg : (againP (ps.take j) l).length = j := by unfold againP; rw [List.length_map, List.length_take]; omega
    obtain ⟨y, hy⟩ : ∃ y, ps.getD j dPl = y := ⟨_, rfl⟩
    rw [hy] at h7 hpj hmj hfr1 hfr2 hok hsn
    generalize pf j = pj at hpj h7
    generalize mf j = mj at hmj h7
    obtain ⟨ya, yn, yc, rfl⟩ := hpj.shape
    obtain ⟨ua, un, uc, rfl⟩ := hmj.shape
    obtain ⟨R0, hR0⟩ : ∃ R0, againP (ps.take j) l = R0 := ⟨_, rfl⟩
    rw [hR0] at hsn hP hlg hF
    obtain ⟨oa, oc, rfl, _⟩ := hP.os.view
    rw [hlg] at hP b5 hF
    have HSN := Lib.hid hsn
    have HOK := Lib.hid hok
    have HF0 := Lib.hid hF
    have hj1 : (j : Int) < (ps.length : Int) := by omega
    have hwj : IntKind.i64.wrap ((j : Int) + 1) = (j : Int) + 1 := IntWalk.i64_in _ (by omega)
    obtain ⟨g0, g1, g2, g3, g4, g5, g6⟩ := id h7
    clear h7 hcell hy hsn hpj hmj hok hR0 hF
    go_wp2_with fail
    clear g0 g1 g2 g3 g4 g5 g6 c0 c1 c2
    have bp := Box7.new wr (.int .i64 y.frm) (.int .i64 y.ca.pol) (.int .i64 y.ca.size) (.slice ya yn yc) (.slice ua un uc) (.int .i64 y.ca.hand) (.int .i64 y.fa) 68
    have kp := (Chg.refl No wr).alloc (.cells #[.int .i64 y.frm, .int .i64 y.ca.pol, .int .i64 y.ca.size, .slice ya yn yc, .slice ua un uc, .int .i64 y.ca.hand, .int .i64 y.fa] 68)
    obtain ⟨B7, hB7⟩ : ∃ B7, wr.heap.size = B7 := ⟨_, rfl⟩
    rw [hB7] at bp
    have hB57 : B5 < B7 := hB7 ▸ b5.lt
    rw [hB7] at hbw
    generalize wr.alloc (.cells #[.int .i64 y.frm, .int .i64 y.ca.pol, .int .i64 y.ca.size, .slice ya yn yc, .slice ua un uc, .int .i64 y.ca.hand, .int .i64 y.fa] 68) = W2 at bp kp ⊢
    replace kk := kk.keep kp
    replace b2 := b2.keep kp
    replace b4 := b4.keep kp
    replace b5 := b5.keep kp
    replace hP := hP.keep kp
    replace o1 := o1.keep kp
    rw [hB7]
    clear kp hB7
    refine wp_region_K (S := fun W => W.cell? ⟨B5, 1, none⟩ = some (.slice oa j oc) ∧ W.cell? ⟨B7, 0, none⟩ = some (.int .i64 y.frm) ∧ W.cell? ⟨B7, 1, none⟩ = some (.int .i64 y.ca.pol) ∧ W.cell? ⟨B7, 2, none⟩ = some (.int .i64 y.ca.size)) (k := 13) (by kernel_rfl) ?_
    replace kk := kk.keep (drewN0 _)
    replace b2 := b2.keep (drewN0 _)
    replace b4 := b4.keep (drewN0 _)
    replace b5 := b5.keep (drewN0 _)
    replace hP := hP.keep (drewN0 _)
    replace o1 := o1.keep (drewN0 _)
    replace bp := bp.keep (drewN0 _)
    generalize W2.drew = WR at kk b2 b4 b5 hP o1 bp ⊢
    have hS : WR.cell? ⟨B5, 1, none⟩ = some (.slice oa j oc) ∧ WR.cell? ⟨B7, 0, none⟩ = some (.int .i64 y.frm) ∧ WR.cell? ⟨B7, 1, none⟩ = some (.int .i64 y.ca.pol) ∧ WR.cell? ⟨B7, 2, none⟩ = some (.int .i64 y.ca.size) := ⟨b5.c1, bp.c0, bp.c1, bp.c2⟩
    refine wpAnyK_take0 0 (.pointer (some ⟨B5, 1, none⟩)) rfl (by kernel_rfl) (fun _ _ _ h => h) hS rfl (by intro w; go_simp) ?_
    simp only [zA, zC, zD, zE, zF, zG]
    refine wpAnyK_takeT 1 (.slice oa j oc) rfl (by kernel_rfl) (fun _ _ _ h => h) hS rfl (by intro w hSw; go_simp) ?_
    simp only [zA, zB, zC, zD, zE, zF, zG]
    refine wpAnyK_take0 2 (.pointer (some ⟨B7, 1, none⟩)) rfl (by kernel_rfl) (fun _ _ _ h => h) hS rfl (by intro w; go_simp) ?_
    simp only [zA, zB, zC, zD, zE, zF, zG]
    refine wpAnyK_take0 3 (.pointer (some ⟨B7, 1, none⟩)) rfl (by kernel_rfl) (fun _ _ _ h => h) hS rfl (by intro w; go_simp) ?_
    simp only [zA, zB, zC, zD, zE, zF, zG]
    refine wpAnyK_takeT 4 (.int .i64 y.ca.pol) rfl (by kernel_rfl) (fun _ _ _ h => h) hS rfl (by intro w hSw; go_simp) ?_
    simp only [zA, zB, zC, zD, zE, zF, zG]
    refine wpAnyK_take0 5 (.pointer (some ⟨B7, 1, none⟩)) rfl (by kernel_rfl) (fun _ _ _ h => h) hS rfl (by intro w; go_simp) ?_
    simp only [zA, zB, zC, zD, zE, zF, zG]
    refine wpAnyK_take0 6 (.pointer (some ⟨B7, 2, none⟩)) rfl (by kernel_rfl) (fun _ _ _ h => h) hS rfl (by intro w; go_simp) ?_
    simp only [zA, zB, zC, zD, zE, zF, zG]
    refine wpAnyK_takeT 7 (.int .i64 y.ca.size) rfl (by kernel_rfl) (fun _ _ _ h => h) hS rfl (by intro w hSw; go_simp) ?_
    simp only [zA, zB, zC, zD, zE, zF, zG]
    refine wpAnyK_take0 8 (.pointer (some ⟨B7, 0, none⟩)) rfl (by kernel_rfl) (fun _ _ _ h => h) hS rfl (by intro w; go_simp) ?_
    simp only [zA, zB, zC, zD, zE, zF, zG]
    refine wpAnyK_takeT 9 (.int .i64 y.frm) rfl (by kernel_rfl) (fun _ _ _ h => h) hS rfl (by intro w hSw; go_simp) ?_
    simp only [zA, zB, zC, zD, zE, zF, zG]
    refine wpAnyK_take0 10 (.slice ra l.length rc) rfl (by kernel_rfl) (fun _ _ _ h => h) hS rfl (by intro w; go_simp) ?_
    simp only [zA, zB, zC, zD, zE, zF, zG]
    refine wpAnyK_1 11 (by kernel_rfl) (wpOpK' rfl rfl ?_)
    intro K hK
    refine ocall (f := 84) (args := #[.int .i64 y.ca.pol, .int .i64 y.ca.size, .int .i64 y.frm, .slice ra l.length rc]) (by go_simp) (l12Player_any y.frm y.ca.pol y.ca.size y.frm.toNat (by omega) _ l (by omega) WR (hr.keep kk) HOK.out) (fun v8 w8 h8 => hK.out _ _ ⟨(b5.keep h8.2).c1, (bp.keep h8.2).c0, (bp.keep h8.2).c1, (bp.keep h8.2).c2⟩ ?_)
    obtain ⟨⟨pv, mv, rfl, op, om, oap⟩, k8⟩ := h8
    clear hK K hS
    simp only [zA, zB, zC, zD, zE, zF, zG]
    have hsz := kk.size
    have hszR := b5.lt
    have hWR : base ≤ WR.heap.size := by have := bp.lt; omega
    replace kk := kk.keep k8
    replace b2 := b2.keep k8
    replace b4 := b4.keep k8
    replace b5 := b5.keep k8
    replace bp := bp.keep k8
    replace o1 := o1.keep k8
    have hPos := hP.os.keep k8
    obtain ⟨x1, x2, x3, rfl⟩ := op.shape
    obtain ⟨x4, x5, x6, rfl⟩ := om.shape
    obtain ⟨X, hX⟩ : ∃ X, servedP y.frm y.ca.pol y.ca.size (List.drop y.frm.toNat l) = X := ⟨_, rfl⟩
    have hsn2 : againP (ps.take (j + 1)) l = R0 ++ [X] := by rw [HSN.out]; unfold wantP; rw [hX]
    rw [hX] at op om ⊢
    have HSN2 := Lib.hid hsn2
    clear hX hsn2
    refine wpAnyK_1 12 (by kernel_rfl) (wpOpK' rfl rfl ?_)
    intro K hK
    unfold Oper.wp execOp
    go_simp
    have ka := (Chg.refl No w8).alloc (.cells #[.int .i64 X.frm, .int .i64 X.ca.pol, .int .i64 X.ca.size, .slice x1 x2 x3, .slice x4 x5 x6, .int .i64 X.ca.hand, .int .i64 X.fa] 68)
    refine hK.out _ _ ⟨(b5.keep ka).c1, (bp.keep ka).c0, (bp.keep ka).c1, (bp.keep ka).c2⟩ ?_
    clear hK K ka
    simp only [zE]
    refine wpAnyK_tail 13 rfl (by kernel_rfl) ?_
    simp only [List.drop_succ_cons, List.drop_zero]
    have hs8 := k8.size
    have hgeq : ∀ q, own (.slice oa j oc) q → w.heap.size + 2 ≤ q ∧ q ≠ B5 ∧ ¬ own (.slice za zn zc) q := fun q hq => ⟨(hP.os.lt q hq).1, HF0.out q (.inl hq)⟩
    go_wp2_with (at_builtin; refine wappS1 elPlayers (by omega) rfl (.tmp 27) (.tmp 38) rfl hPos rfl (by simp [Value.oneCell']) rfl rfl (by omega) (by omega) ?_)
    intro v' wN oN kN hnN
    rw [← hlg] at oN
    have HPN := Lib.hid (hP.snoc (by omega) k8 op om oap oN kN hnN)
    have HFN : Hid (∀ q, FA v' (R0.length + 1) (fun i => if i = R0.length then .slice x1 x2 x3 else pg i) (fun i => if i = R0.length then .slice x4 x5 x6 else mg i) q → q ≠ B5 ∧ ¬ own (.slice za zn zc) q) := Lib.hid (fun q hq => by
     rcases PA.snocF (b := WR.heap.size) (fun q hq => (op.lt q hq).1) (fun q hq => (om.lt q hq).1) hs8 hnN q hq with h | h
     ·exact HF0.out q (by rw [hlg] at h; exact h)
     ·exact ⟨by omega, fun e => by have := hcl0 q e; omega⟩)
    replace kk := kk.step kN (fun q hq hl => by have := (hgeq q hq).1; omega)
    replace b2 := b2.step kN (fun hq => by have := (hgeq _ hq).1; omega)
    replace b4 := b4.step kN (fun hq => by have := (hgeq _ hq).1; omega)
    replace b5 := b5.step kN (fun hq => (hgeq _ hq).2.1 rfl)
    replace o1 := o1.step kN (fun q hq hq' => (hgeq _ hq').2.2 hq)
    obtain ⟨na, nc, rfl, _⟩ := oN.view
    have hszN := kN.size
    have cN : Chg (fun q => q = B5) wN (wN.setCell ⟨B5, 1, none⟩ (.slice na (R0.length + 1) nc)) := (Chg.refl (fun q => q = B5) wN).setCell (p := ⟨B5, 1, none⟩) (fun _ => rfl) _
    have hlx : (R0 ++ [X]).length = R0.length + 1 := by simp
    have HEND := Lib.hid (And.intro (kk.step cN (fun q hq hl => by omega)) (And.intro (b2.step cN (by omega)) (And.intro (b4.step cN (by omega)) (And.intro (b5.set1 (.slice na (R0.length + 1) nc)) (And.intro (HPN.out.step cN (fun q hq e => (HFN.out q (by rw [hlx] at hq; exact hq)).1 e)) (And.intro (o1.step cN hne) cN.size))))))
    have hb51 := b5.c1
    have hb53 := b5.fr 1
    have HLX := Lib.hid hlx
    clear kk b2 b4 b5 hP hPos o1 oN kN hnN HPN cN k8 op om bp hgeq hlg hlx
    go_wp2_with fail
    go_round
    case measure => simp [intOf]; omega
    case rel =>
     obtain ⟨e1, e2, e3, e4, e5, e6, e7⟩ := HEND.out
     exact ⟨j + 1, _, _, _, by omega, by go_num, e1, by omega, e2, e3, e4, by rw [HSN2.out]; exact e5, e6, by rw [HSN2.out, HLX.out]; exact HFN.out⟩
   ·have hje : j = ps.length := by omega
    subst hje
    rw [List.take_length] at hP hF
    obtain ⟨oa, oc, rfl, _⟩ := hP.os.view
    obtain ⟨n5, hn5⟩ : ∃ n5, (againP ps l).length = n5 := ⟨_, rfl⟩
    rw [hn5] at hP b5 hF
    clear HL HC HS
    obtain ⟨d0, d1, d2, _⟩ := id b5
    obtain ⟨e0, e1, e2, cf⟩ := id b4
    have cf0 := cf 0
    have cf1 := cf 1
    have cf2 := cf 2
    clear cf
    obtain ⟨z0, z1, z2, _⟩ := ((b4.set0 (.int .i64 it)).set1 (.slice oa n5 oc)).set2 (.slice za zn zc)
    have ch : Chg (fun q => q = w.heap.size + 1) wr (((wr.setCell ⟨w.heap.size + 1, 0, none⟩ (.int .i64 it)).setCell ⟨w.heap.size + 1, 1, none⟩ (.slice oa n5 oc)).setCell ⟨w.heap.size + 1, 2, none⟩ (.slice za zn zc)) :=
     (((Chg.refl (fun q => q = w.heap.size + 1) wr).setCell (p := ⟨w.heap.size + 1, 0, none⟩) (fun _ => rfl) _).setCell (p := ⟨w.heap.size + 1, 1, none⟩) (fun _ => rfl) _).setCell (p := ⟨w.heap.size + 1, 2, none⟩) (fun _ => rfl) _
    have f1 := (hP.step ch (fun q hq e => by have := (hP.inF q hq).1; omega)).weak (base' := w.heap.size) (by omega)
    have f3 : ∀ q, FA (.slice oa n5 oc) (againP ps l).length pg mg q → ¬ own (.slice za zn zc) q := fun q hq => (hF q (by rw [hn5] at hq; exact hq)).2
    have hk := kk.step ch (fun q hq hl => by omega)
    have HEND := Lib.hid (And.intro f1 (And.intro f3 hk))
    have HO := Lib.hid ((o1.step ch (fun q hq e => by have := (o1.lt q hq).1; omega)).weak (base' := w.heap.size) (by omega))
    clear f1 f3 hk hP o1 kk ch b2 b4 b5 hn5 hF
    go_wp2_with fail
    exact bodyPost_ret (v := .agg #[.int .i64 it, .slice oa n5 oc, .slice za zn zc]) (by simp [results, Tryz.results113, go_sem, z0, z1, z2]) rfl ⟨_, rfl, ⟨_, _, _, _, rfl, HEND.out.1, HO.out, HEND.out.2.1⟩, HEND.out.2.2⟩
end Go.Proofs.YtdgcohoneijleaaGreatDoor
