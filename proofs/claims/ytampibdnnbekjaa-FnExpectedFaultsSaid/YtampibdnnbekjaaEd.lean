import Derived.Test.YtampibdnnbekjaaEb
import Derived.Test.YtampibdnnbekjaaEc
import Derived.Test.YtampibdnnbekjaaR
import Derived.Test.YtampibdnnbekjaaT
import Derived.Test.YtampibdnnbekjaaU
/- what the program adds for a sequence -/
namespace Go.Proofs.Ytampibdnnbekjaa
open Go.RowKit

theorem gAdd_bound {ws : List Int} (h : ∀ x ∈ ws, 0 ≤ x ∧ x ≤ 9) (n L : Nat) (c : Ca) (t : Nat) (hL : L ≤ 4) : 0 ≤ gAdd ws n L c t ∧ gAdd ws n L c t ≤ 26244 := by
  have h1 := wt_bound h (digs n L t)
  have h2 := nfC_le (digs n L t) c
  rw [digs_len] at h1 h2
  have h3 : (9 : Int) ^ L ≤ 6561 := by
    match L, hL with
    | 0, _ => decide
    | 1, _ => decide
    | 2, _ => decide
    | 3, _ => decide
    | 4, _ => decide
  unfold gAdd
  refine ⟨Int.mul_nonneg h1.1 (Int.natCast_nonneg _), Int.le_trans (Int.mul_le_mul_of_nonneg_right (Int.le_trans h1.2 h3) (Int.natCast_nonneg _)) ?_⟩
  omega
theorem sum_gAdd {ws : List Int} (h : ∀ x ∈ ws, 0 ≤ x ∧ x ≤ 9) {n L : Nat} (c : Ca) (hn : 1 ≤ n) (hn8 : n ≤ 8) (hL : L ≤ 4) : ∀ j, j ≤ n ^ L → 0 ≤ sumTo (gAdd ws n L c) j ∧ sumTo (gAdd ws n L c) j ≤ 107495424 := by
  intro j hj
  have h1 := sumTo_bound (g := gAdd ws n L c) (B := 26244) (m := n ^ L) (fun i _ => gAdd_bound h n L c i hL) j hj
  have h2 := pow_le4 hn8 hL hn
  omega
structure JE (b0 : Nat) (wv : Value) (ws : List Int) (g : Nat → Int) (p k : Int) (bw bs bp bz : Nat) (j : Nat) (w : World) : Prop where
  ri : RI (fun q => b0 ≤ q) w wv ws
  cw : w.cell? ⟨bw, 0, none⟩ = some wv
  cs : w.cell? ⟨bs, 0, none⟩ = some (.int .i64 (sumTo g j))
  cp : w.cell? ⟨bp, 0, none⟩ = some (.int .i64 p)
  cz : w.cell? ⟨bz, 0, none⟩ = some (.int .i64 k)
  fs : w.frozen? ⟨bs, 0, none⟩ = false
theorem JE.keep {b0 : Nat} {wv : Value} {ws : List Int} {g : Nat → Int} {p k : Int} {bw bs bp bz j : Nat} {w w' : World} {S : Nat → Prop} {base : Nat} (h : JE b0 wv ws g p k bw bs bp bz j w) (hc : Chg S w w') (hb : b0 ≤ base) (hS : ∀ q, S q → base ≤ q)
    (h1 : bw < base) (h2 : bs < base) (h3 : bp < base) (h4 : bz < base) : JE b0 wv ws g p k bw bs bp bz j w' := by
  have l1 := World.block_lt_of_cell? w _ h.cw
  have l2 := World.block_lt_of_cell? w _ h.cs
  have l3 := World.block_lt_of_cell? w _ h.cp
  have l4 := World.block_lt_of_cell? w _ h.cz
  exact ⟨h.ri.step hc (fun q hq => Nat.le_trans hb (hS q hq)), (hc.cellD bw 0 l1 (fun e => by have := hS _ e; omega)).trans h.cw, (hc.cellD bs 0 l2 (fun e => by have := hS _ e; omega)).trans h.cs,
    (hc.cellD bp 0 l3 (fun e => by have := hS _ e; omega)).trans h.cp, (hc.cellD bz 0 l4 (fun e => by have := hS _ e; omega)).trans h.cz, (hc.frozenD bs 0 l2 (fun e => by have := hS _ e; omega)).trans h.fs⟩

/-- a call at an operation -/
theorem ocallV {o : Oper} {a : Act} {K : Act → World → Prop} {Q : Exit → Act → World → Prop} {w : World} {f : FuncId} {args : Array Value} {φ : Value → World → Prop}
    (ho : (execOp a.eval o).run Try.prog w = .ok (.enter f args) w) (h : Calls Try.prog f args w (Ret φ)) (hk : ∀ v w', φ v w' → K (a.put o.dst v) w') : Oper.wp Try.prog o a w K Q := by
  unfold Oper.wp
  rw [ho]
  refine h.mono (fun e w' hr => ?_)
  obtain ⟨v, rfl, hp⟩ := hr
  exact hk v w' hp
theorem cfExpected (c1 c2 c3 c4 x : Value) (w : World) : (callFunc 27 #[x, c1, c2, c3, c4]).run Try.prog w = .ok (.enter 27 #[x, c1, c2, c3, c4]) w := by kernel_rfl
set_option maxRecDepth 100000 in
set_option maxHeartbeats 4000000 in
theorem expected1_any (b0 : Nat) (wv : Value) (ws : List Int) (p k : Int) (L bw bs bp bz j : Nat) (v : Value) (w : World) (hn : 1 ≤ ws.length) (hn8 : ws.length ≤ 8) (hL : L ≤ 4) (h9 : ∀ x ∈ ws, 0 ≤ x ∧ x ≤ 9) (hok : Ok (newC p k))
    (hj : j < ws.length ^ L) (hJ : JE b0 wv ws (gAdd ws ws.length L (newC p k)) p k bw bs bp bz j w) (hv : RI No w v (digs ws.length L j)) (hbs : b0 ≤ bs) (hd1 : bs ≠ bw) (hd3 : bs ≠ bp) (hd4 : bs ≠ bz) :
    Calls Try.prog 27 #[v, .pointer (some ⟨bw, 0, none⟩), .pointer (some ⟨bs, 0, none⟩), .pointer (some ⟨bp, 0, none⟩), .pointer (some ⟨bz, 0, none⟩)] w
      (Ret fun r w' => r = .tuple #[] ∧ JE b0 wv ws (gAdd ws ws.length L (newC p k)) p k bw bs bp bz (j + 1) w' ∧ Chg (fun q => q = bs) w w') := by
  have hlen := digs_len ws.length L j
  have hbel := digs_below (show 0 < ws.length by omega) L j
  have hplc := places_nf (digs ws.length L j) (newC p k)
  have hg : gAdd ws ws.length L (newC p k) j = wt ws (digs ws.length L j) * (nfC (newC p k) (digs ws.length L j) : Int) := rfl
  have hsn := wt_snoc ws (digs ws.length L j)
  have hnf := nfC_le (digs ws.length L j) (newC p k)
  have hwb := fun m => wt_bound h9 ((digs ws.length L j).take m)
  have hs1 := sum_gAdd h9 (newC p k) hn hn8 hL j (by omega)
  have hs2 := sum_gAdd h9 (newC p k) hn hn8 hL (j + 1) hj
  have hss : sumTo (gAdd ws ws.length L (newC p k)) (j + 1) = sumTo (gAdd ws ws.length L (newC p k)) j + gAdd ws ws.length L (newC p k) j := rfl
  obtain ⟨s, hs⟩ : ∃ s, digs ws.length L j = s := ⟨_, rfl⟩
  rw [hs] at hlen hbel hplc hg hsn hnf hwb hv
  obtain ⟨y, hy⟩ : ∃ y, sumTo (gAdd ws ws.length L (newC p k)) j = y := ⟨_, rfl⟩
  have hcs := hJ.cs
  rw [hy] at hcs hs1 hss
  have hcw := hJ.cw
  have hcp := hJ.cp
  have hcz := hJ.cz
  have hfs := hJ.fs
  have hv0 := hv
  obtain ⟨a, cap, rfl, hcap, hmax, hle, _, hc⟩ := id hv
  obtain ⟨a2, cap2, rfl, hcap2, hmax2, hle2, _, hc2⟩ := id hJ.ri
  have HJ := Lib.hid hJ
  have HSS := Lib.hid hss
  have HG := Lib.hid hg
  clear hJ hss hg
  go_enter Try.func27, Try.ntmps27
  go_wp2_with fail
  go_loop [6, 11] (fun z i => ∃ m : Nat, m ≤ s.length ∧ i = .int .i64 m ∧ z = .int .i64 (wt ws (s.take m))) (fun _ i => s.length - (intOf i).toNat)
  case atStart => exact ⟨0, Nat.zero_le _, rfl, rfl⟩
  case round =>
    obtain ⟨m, hm, rfl, rfl⟩ := hrel
    have hm0 : (0 : Int) ≤ (m : Int) := Int.natCast_nonneg _
    by_cases hlt : m < s.length
    · obtain ⟨b, off, rfl, _, _, hcell⟩ := hc (by intro e; simp [e] at hlt)
      have hcl := hcell m hlt
      have hx := hbel _ (getD_mem hlt)
      have hst := hsn m hlt
      obtain ⟨x, hx'⟩ : ∃ x, s.getD m 0 = x := ⟨_, rfl⟩
      rw [hx'] at hcl hx hst
      obtain ⟨q, rfl⟩ : ∃ q : Nat, x = (q : Int) := ⟨x.toNat, by omega⟩
      rw [Int.toNat_natCast] at hst
      have hq : q < ws.length := by omega
      obtain ⟨b2, off2, rfl, _, _, hcell2⟩ := hc2 (by intro e; simp [e] at hq)
      have hcl2 := hcell2 q hq
      obtain ⟨u, hu⟩ : ∃ u, ws.getD q 0 = u := ⟨_, rfl⟩
      rw [hu] at hcl2 hst
      have hb1 := hwb (m + 1)
      obtain ⟨z, hz⟩ : ∃ z, wt ws (s.take m) = z := ⟨_, rfl⟩
      rw [hst] at hb1
      rw [hz] at hst hb1 ⊢
      have hp9 : (9 : Int) ^ (s.take (m + 1)).length ≤ 6561 := by
        have : (s.take (m + 1)).length ≤ 4 := by rw [List.length_take]; omega
        generalize (s.take (m + 1)).length = r at this ⊢
        match r, this with
        | 0, _ => decide
        | 1, _ => decide
        | 2, _ => decide
        | 3, _ => decide
        | 4, _ => decide
      have hwz : IntKind.i64.wrap (z * u) = z * u := IntWalk.i64_in _ (by omega)
      have hw1 : IntKind.i64.wrap ((m : Int) + 1) = (m : Int) + 1 := IntWalk.i64_in _ (by omega)
      have hm1 : (m : Int) < (s.length : Int) := by omega
      have hq0 : (0 : Int) ≤ (q : Int) := Int.natCast_nonneg _
      have hq1 : (q : Int) < (ws.length : Int) := by omega
      have HST := Lib.hid hst
      clear hcell hc hcell2 hc2 hst hz hx' hu hb1 hx hsn hbel hwb
      go_wp2_with fail
      go_round
      case rel => exact ⟨m + 1, hlt, by go_num, by rw [HST.out]⟩
      case measure => simp [intOf]; omega
    · have hml : m = s.length := by omega
      subst hml
      have hb1 := hwb s.length
      rw [List.take_length] at hb1 ⊢
      clear hsn hbel hwb hc hc2
      obtain ⟨z, hz⟩ : ∃ z, wt ws s = z := ⟨_, rfl⟩
      rw [hz] at HG hb1 ⊢
      clear hz
      by_cases hz0 : 0 < z
      · obtain ⟨r, hr⟩ : ∃ r, nfC (newC p k) s = r := ⟨_, rfl⟩
        rw [hr] at hplc hnf HG
        have hp9 : (9 : Int) ^ s.length ≤ 6561 := by
          rw [hlen]
          match L, hL with
          | 0, _ => decide
          | 1, _ => decide
          | 2, _ => decide
          | 3, _ => decide
          | 4, _ => decide
        have hr0 : (0 : Int) ≤ (r : Int) := Int.natCast_nonneg _
        rw [HSS.out, HG.out] at hs2
        have hzr : 0 ≤ z * (r : Int) := Int.mul_nonneg hb1.1 hr0
        have hw1 : IntKind.i64.wrap (z * (r : Int)) = z * (r : Int) := IntWalk.i64_in _ (by omega)
        have hw2 : IntKind.i64.wrap (y + z * (r : Int)) = y + z * (r : Int) := IntWalk.i64_in _ (by omega)
        clear hr hnf hcap2 hmax2 hle2
        go_wp2_with fail
        refine wp_region_K (S := fun W => W.cell? ⟨bs, 0, none⟩ = some (.int .i64 y) ∧ W.cell? ⟨bp, 0, none⟩ = some (.int .i64 p) ∧ W.cell? ⟨bz, 0, none⟩ = some (.int .i64 k)) (k := 9) (by kernel_rfl) ?_
        have hd0 : Chg No w w.drew := (Chg.refl No w).drew
        have hS : (fun W : World => W.cell? ⟨bs, 0, none⟩ = some (.int .i64 y) ∧ W.cell? ⟨bp, 0, none⟩ = some (.int .i64 p) ∧ W.cell? ⟨bz, 0, none⟩ = some (.int .i64 k)) w.drew := ⟨hcs, hcp, hcz⟩
        have l2 := World.block_lt_of_cell? w _ hcs
        have l3 := World.block_lt_of_cell? w _ hcp
        have l4 := World.block_lt_of_cell? w _ hcz
        simp only at l2 l3 l4
        generalize w.drew = W at hd0 hS ⊢
        refine wpAnyK_take0 1 (.int .i64 z) rfl (by kernel_rfl) (fun _ _ _ h => h) hS rfl (by intro w; go_simp) ?_
        simp only [List.getElem_toArray, List.getElem_cons_succ, List.getElem_cons_zero, Act.put, List.setIfInBounds_toArray, List.set_cons_zero, List.set_cons_succ]
        refine wpAnyK_take 2 (.int .i64 p) rfl (by kernel_rfl) (fun _ _ _ h => h) hS rfl (by intro w hSw; obtain ⟨q1, q2, q3⟩ := hSw; go_simp) ?_
        simp only [List.getElem_toArray, List.getElem_cons_succ, List.getElem_cons_zero, Act.put, List.setIfInBounds_toArray, List.set_cons_zero, List.set_cons_succ]
        refine wpAnyK_take 3 (.int .i64 k) rfl (by kernel_rfl) (fun _ _ _ h => h) hS rfl (by intro w hSw; obtain ⟨q1, q2, q3⟩ := hSw; go_simp) ?_
        simp only [List.getElem_toArray, List.getElem_cons_succ, List.getElem_cons_zero, Act.put, List.setIfInBounds_toArray, List.set_cons_zero, List.set_cons_succ]
        refine wpAnyK_take0 4 (.slice a s.length cap) rfl (by kernel_rfl) (fun _ _ _ h => h) hS rfl (by intro w; go_simp) ?_
        simp only [List.getElem_toArray, List.getElem_cons_succ, List.getElem_cons_zero, Act.put, List.setIfInBounds_toArray, List.set_cons_zero, List.set_cons_succ]
        refine wpAnyK_take 0 (.int .i64 y) rfl (by kernel_rfl) (fun _ _ _ h => h) hS rfl (by intro w hSw; obtain ⟨q1, q2, q3⟩ := hSw; go_simp) ?_
        simp only [List.getElem_toArray, List.getElem_cons_zero, Act.put, List.setIfInBounds_toArray, List.set_cons_zero, List.set_cons_succ]
        refine wpAnyK_1 5 (by kernel_rfl) (wpOpK' rfl rfl ?_)
        intro K hK
        refine ocallV (f := 28) (args := #[.int .i64 p, .int .i64 k, .slice a s.length cap]) (by go_simp) (faultPlaces_any No p k _ s W (hv0.keep hd0) hok) (fun v1 W1 h1 => hK.out _ _ ?_ ?_)
        · have l := hd0.size
          refine ⟨(h1.2.cellD bs 0 (by omega) (fun e => e)).trans hS.1, (h1.2.cellD bp 0 (by omega) (fun e => e)).trans hS.2.1, (h1.2.cellD bz 0 (by omega) (fun e => e)).trans hS.2.2⟩
        obtain ⟨o1, k1⟩ := h1
        clear hK K
        simp only [List.getElem_toArray, List.getElem_cons_succ, List.getElem_cons_zero, Act.put, List.setIfInBounds_toArray, List.set_cons_zero, List.set_cons_succ]
        have l := hd0.size
        have hS : (fun W : World => W.cell? ⟨bs, 0, none⟩ = some (.int .i64 y) ∧ W.cell? ⟨bp, 0, none⟩ = some (.int .i64 p) ∧ W.cell? ⟨bz, 0, none⟩ = some (.int .i64 k)) W1 := ⟨(k1.cellD bs 0 (by omega) (fun e => e)).trans hS.1, (k1.cellD bp 0 (by omega) (fun e => e)).trans hS.2.1, (k1.cellD bz 0 (by omega) (fun e => e)).trans hS.2.2⟩
        have kk := hd0.keep k1
        have g2 := (kk.cellD bs 0 l2 (fun e => e)).trans hcs
        have gf := (kk.frozenD bs 0 l2 (fun e => e)).trans hfs
        have hr2 := HJ.out.ri.keep kk
        have gw := (kk.cellD bw 0 (World.block_lt_of_cell? w _ hcw) (fun e => e)).trans hcw
        have gp := (kk.cellD bp 0 l3 (fun e => e)).trans hcp
        have gz := (kk.cellD bz 0 l4 (fun e => e)).trans hcz
        obtain ⟨a1, c1, rfl, _⟩ := o1.view
        rw [hplc]
        refine wpAnyK_take0 6 (.int .i64 (r : Int)) rfl (by kernel_rfl) (fun _ _ _ h => h) hS rfl (by intro w; go_simp) ?_
        simp only [List.getElem_toArray, List.getElem_cons_succ, List.getElem_cons_zero, Act.put, List.setIfInBounds_toArray, List.set_cons_zero, List.set_cons_succ]
        refine wpAnyK_take0 7 (.int .i64 (z * (r : Int))) rfl (by kernel_rfl) (fun _ _ _ h => h) hS rfl (by intro w; go_simp) ?_
        simp only [List.getElem_toArray, List.getElem_cons_succ, List.getElem_cons_zero, Act.put, List.setIfInBounds_toArray, List.set_cons_zero, List.set_cons_succ]
        refine wpAnyK_take0 8 (.int .i64 (y + z * (r : Int))) rfl (by kernel_rfl) (fun _ _ _ h => h) hS rfl (by intro w; go_simp) ?_
        simp only [List.getElem_toArray, List.getElem_cons_succ, List.getElem_cons_zero, Act.put, List.setIfInBounds_toArray, List.set_cons_zero, List.set_cons_succ]
        clear hcs hcp hcz hcw hfs hS o1
        refine wpAnyK_tail 9 rfl (by kernel_rfl) ?_
        simp only [List.drop_succ_cons, List.drop_zero]
        go_wp2_with fail
        go_end0
        have o2 : Chg (fun q => q = bs) W1 (W1.setCell ⟨bs, 0, none⟩ (.int .i64 (y + z * (r : Int)))) := (Chg.refl (fun q => q = bs) W1).setCell (p := ⟨bs, 0, none⟩) (fun _ => rfl) _
        have l1 := World.block_lt_of_cell? _ _ gw
        have lp := World.block_lt_of_cell? _ _ gp
        have lz := World.block_lt_of_cell? _ _ gz
        refine ⟨_, rfl, rfl, ⟨hr2.step o2 (fun q hq => by rw [hq]; exact hbs), (o2.cellD bw 0 l1 (fun e => hd1 e.symm)).trans gw, ?_, (o2.cellD bp 0 lp (fun e => hd3 e.symm)).trans gp, (o2.cellD bz 0 lz (fun e => hd4 e.symm)).trans gz, (World.frozen?_setCell _ _ _ _).trans gf⟩, (kk.mono (fun _ e _ => e.elim)).trans o2⟩
        rw [HSS.out, HG.out]
        exact World.cell?_setCell_same _ _ _ g2
      · have hz1 : z = 0 := by omega
        subst hz1
        go_wp2_with fail
        go_end0
        refine ⟨_, rfl, rfl, ⟨HJ.out.ri, hcw, ?_, hcp, hcz, hfs⟩, Chg.refl _ _⟩
        rw [HSS.out, HG.out, Int.zero_mul, Int.add_zero]
        exact hcs
end Go.Proofs.Ytampibdnnbekjaa
