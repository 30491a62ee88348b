import Derived.Test.YtodnkkmjjlfoiaaBr
/- AccountOf, both sides -/
namespace Go.Proofs.Ytodnkkmjjlfoiaa
open Go.RowKit

theorem elA2 : El 34 37 (.agg #[.int .i64 0, .int .i64 0]) 2 16 := El.mk' Try.underlying34 (by kernel_rfl) rfl (by omega)
/-- the account's numbers, of the first j Players -/
def accL (t : To) (j : Nat) : List Int := (List.range j).flatMap fun i => [(t.ps.getD i dPl).fa, fewT t i]
theorem accL_succ (t : To) (j : Nat) : (accL t (j + 1)).map (Value.int .i64) = (accL t j).map (Value.int .i64) ++ [.int .i64 (t.ps.getD j dPl).fa, .int .i64 (fewT t j)] := by
  unfold accL
  rw [List.range_succ, List.flatMap_append]
  simp
theorem accL_len (t : To) (j : Nat) : (accL t j).length = j * 2 := by
  induction j with
  | zero => rfl
  | succ j ih =>
    have h := congrArg List.length (accL_succ t j)
    simp only [List.length_map, List.length_append, List.length_cons, List.length_nil] at h
    omega
def accN (t : To) : Nat := if tourB t then t.ps.length else 0

set_option maxRecDepth 100000 in
set_option maxHeartbeats 4000000 in
theorem implAccount_any (v : Value) (t : To) (w : World) (h : RT No w v t) :
    Calls Try.prog 8 #[v] w (Ret2 fun v0 v1 w' => v1 = .bool (tourB t) ∧ OS 37 2 w.heap.size w' v0 (accN t) ((accL t (accN t)).map (Value.int .i64)) ∧ Chg No w w') := by
  have h0 := h
  obtain ⟨it, ps, rq⟩ := t
  obtain ⟨pv, rv, rfl, hps, hrq⟩ := h
  simp only at hps hrq
  obtain ⟨ra, rc, rfl, _⟩ := id hrq
  obtain ⟨a, cap, rfl, hcap, hmax, hlen, pf, mf, hl, hcl⟩ := id hps
  obtain ⟨W0, hW0⟩ : ∃ W0, (w.alloc (.cells #[.int .i64 it, .slice a ps.length cap, .slice ra rq.length rc] 28)) = W0 := ⟨_, rfl⟩
  have k0 : Chg No w W0 := hW0 ▸ (Chg.refl No w).alloc _
  have b0 : Box3 W0 w.heap.size (.int .i64 it) (.slice a ps.length cap) (.slice ra rq.length rc) := hW0 ▸ Box3.new w _ _ _ 28
  have HC := Lib.hid hcl
  have HL := Lib.hid hl
  have HW0 := Lib.hid hW0
  obtain ⟨c0, c1, c2, _⟩ := id b0
  clear hl hcl hW0
  go_enter Try.func8, Try.ntmps8
  go_wp2_with fail
  rw [HW0.out]
  refine (IsTournament_any _ ⟨it, ps, rq⟩ _ (h0.keep k0)).mono ?_
  rintro e w1 ⟨_, rfl, rfl, k2⟩
  have k1 := k0.keep k2
  have b1 := b0.keep k2
  clear c0 c1 c2 b0 k0 k2
  cases ht : tourB ⟨it, ps, rq⟩
  · have hn : accN ⟨it, ps, rq⟩ = 0 := by simp [accN, ht]
    have HN := Lib.hid hn
    have HT := Lib.hid ht
    clear hn ht
    go_wp2_with fail
    exact bodyPost_ret (v := .tuple #[.slice none 0 0, .bool false]) (by simp [results, Try.results8, go_sem]) rfl ⟨_, _, rfl, by rw [HT.out], by rw [HN.out]; exact OS.nil _ _ _ _, k1⟩
  · have hn : accN ⟨it, ps, rq⟩ = ps.length := by simp [accN, ht]
    have HN := Lib.hid hn
    have HT := Lib.hid ht
    have hfac := fun j (hj : j < ps.length) => rat_facts (t := ⟨it, ps, rq⟩) ht (i := j) hj
    have HF := Lib.hid hfac
    clear hn ht hfac
    have hl1 := b1.lt
    have hO := OS.zero (E := 37) (sz := 2) (base := w.heap.size + 1) (w := w1) (by omega)
    replace k1 := k1.alloc (.cells #[] 37)
    replace b1 := b1.keep ((Chg.refl No w1).alloc (.cells #[] 37))
    obtain ⟨c0, c1, c2, _⟩ := id b1
    go_wp2_with fail
    clear c0 c1 c2
    go_loopw [4, 14] (fun o z wr => ∃ j : Nat, j ≤ ps.length ∧ z = .int .i64 (j : Int) ∧ OS 37 2 (w.heap.size + 1) wr o j ((accL ⟨it, ps, rq⟩ j).map (Value.int .i64)) ∧ Box3 wr w.heap.size (.int .i64 it) (.slice a ps.length cap) (.slice ra rq.length rc) ∧ Chg No w wr) (fun _ z _ => ps.length - (intOf z).toNat)
    case atStart => exact ⟨0, Nat.zero_le _, rfl, hO, b1, k1⟩
    case round =>
      clear hO b1 k1
      obtain ⟨j, hj, rfl, hO, b0, kk⟩ := hrel
      obtain ⟨oa, oc, rfl, _⟩ := hO.view
      have hj0 : (0 : Int) ≤ (j : Int) := Int.natCast_nonneg _
      by_cases hlt : j < ps.length
      · obtain ⟨b, off, rfl, _, hb, hcell⟩ := HC.out (by intro e; simp [e] at hlt)
        have h7 := (hcell j hlt).step kk hb (fun e => e)
        obtain ⟨hpj, hmj⟩ := HL.out j hlt
        have hsn := accL_succ ⟨it, ps, rq⟩ j
        simp only at hsn
        obtain ⟨y, hy⟩ : ∃ y, ps.getD j dPl = y := ⟨_, rfl⟩
        obtain ⟨fw, hfw⟩ : ∃ fw, fewT ⟨it, ps, rq⟩ j = fw := ⟨_, rfl⟩
        rw [hy] at h7 hsn hpj hmj
        rw [hfw] at hsn
        generalize pf j = pj at hpj h7
        generalize mf j = mj at hmj h7
        obtain ⟨ya, yn, yc, rfl⟩ := hpj.shape
        obtain ⟨za, zn, zc, rfl⟩ := hmj.shape
        have HFW := Lib.hid hfw
        have HSN := Lib.hid hsn
        have hj1 : (j : Int) < (ps.length : Int) := by omega
        have hwj : IntKind.i64.wrap ((j : Int) + 1) = (j : Int) + 1 := IntWalk.i64_in _ (by omega)
        have hlo := hO.len
        obtain ⟨g0, g1, g2, g3, g4, g5, g6⟩ := id h7
        clear h7 hcell hy hfw hsn hpj hmj
        go_wp2_with fail
        clear g0 g1 g2 g3 g4 g5 g6
        have bp := Box7.new wr (.int .i64 y.frm) (.int .i64 y.ca.pol) (.int .i64 y.ca.size) (.slice ya yn yc) (.slice za zn zc) (.int .i64 y.ca.hand) (.int .i64 y.fa) 44
        have kp := (Chg.refl No wr).alloc (.cells #[.int .i64 y.frm, .int .i64 y.ca.pol, .int .i64 y.ca.size, .slice ya yn yc, .slice za zn zc, .int .i64 y.ca.hand, .int .i64 y.fa] 44)
        obtain ⟨B, hB⟩ : ∃ B, wr.heap.size = B := ⟨_, rfl⟩
        rw [hB] at bp
        have hBw : w.heap.size < B := hB ▸ b0.lt
        have hBo : ∀ q, own (.slice oa j oc) q → q < B := fun q hq => hB ▸ (hO.lt q hq).2
        generalize wr.alloc (.cells #[.int .i64 y.frm, .int .i64 y.ca.pol, .int .i64 y.ca.size, .slice ya yn yc, .slice za zn zc, .int .i64 y.ca.hand, .int .i64 y.fa] 44) = W2 at bp kp ⊢
        replace kk := kk.keep kp
        replace b0 := b0.keep kp
        replace hO := hO.keep kp
        rw [hB]
        clear kp hB
        refine wp_region_K (S := fun W => (W.cell? ⟨w.heap.size, 0, none⟩ = some (.int .i64 it) ∧ W.cell? ⟨w.heap.size, 1, none⟩ = some (.slice (some ⟨b, off, none⟩) ps.length cap) ∧ W.cell? ⟨w.heap.size, 2, none⟩ = some (.slice ra rq.length rc)) ∧ W.cell? ⟨B, 6, none⟩ = some (.int .i64 y.fa)) (k := 6) (by kernel_rfl) ?_
        replace kk := kk.keep (drewNo _)
        replace b0 := b0.keep (drewNo _)
        replace hO := hO.keep (drewNo _)
        replace bp := bp.keep (drewNo _)
        generalize W2.drew = WR at kk b0 hO bp ⊢
        have hS : (WR.cell? ⟨w.heap.size, 0, none⟩ = some (.int .i64 it) ∧ WR.cell? ⟨w.heap.size, 1, none⟩ = some (.slice (some ⟨b, off, none⟩) ps.length cap) ∧ WR.cell? ⟨w.heap.size, 2, none⟩ = some (.slice ra rq.length rc)) ∧ WR.cell? ⟨B, 6, none⟩ = some (.int .i64 y.fa) := ⟨⟨b0.c0, b0.c1, b0.c2⟩, bp.c6⟩
        refine wpAnyK_take0 0 (.slice oa j oc) rfl (by kernel_rfl) (fun _ _ _ h => h) hS rfl (by intro w; go_simp) ?_
        simp only [List.getElem_toArray, List.getElem_cons_zero, Act.put, List.setIfInBounds_toArray, List.set_cons_zero, List.set_cons_succ]
        refine wpAnyK_take0 1 (.pointer (some ⟨B, 6, none⟩)) rfl (by kernel_rfl) (fun _ _ _ h => h) hS rfl (by intro w; go_simp) ?_
        simp only [List.getElem_toArray, List.getElem_cons_succ, List.getElem_cons_zero, Act.put, List.setIfInBounds_toArray, List.set_cons_zero, List.set_cons_succ]
        refine wpAnyK_take 2 (.int .i64 y.fa) rfl (by kernel_rfl) (fun _ _ _ h => h) hS rfl (by intro w hSw; go_simp) ?_
        simp only [List.getElem_toArray, List.getElem_cons_succ, List.getElem_cons_zero, Act.put, List.setIfInBounds_toArray, List.set_cons_zero, List.set_cons_succ]
        refine wpAnyK_take0 4 (.int .i64 (j : Int)) rfl (by kernel_rfl) (fun _ _ _ h => h) hS rfl (by intro w; go_simp) ?_
        simp only [List.getElem_toArray, List.getElem_cons_succ, List.getElem_cons_zero, Act.put, List.setIfInBounds_toArray, List.set_cons_zero, List.set_cons_succ]
        refine wpAnyK_1 3 (by kernel_rfl) (wpOpK' rfl rfl ?_)
        intro K hK
        obtain ⟨⟨c0, c1, c2⟩, d6⟩ := id hS
        unfold Oper.wp execOp
        go_simp
        refine hK.out _ _ hS ?_
        clear hK K c0 c1 c2 d6
        simp only [List.setIfInBounds_toArray]
        refine wpAnyK_1 5 (by kernel_rfl) (wpOpK' rfl rfl ?_)
        intro K hK
        refine ocallR (f := 12) (args := #[.agg #[.int .i64 it, .slice (some ⟨b, off, none⟩) ps.length cap, .slice ra rq.length rc], .int .i64 (j : Int)]) (by go_simp) (fewest_any _ ⟨it, ps, rq⟩ j WR (h0.keep kk) HT.out hlt) (fun w8 k8 => hK.out _ _ ⟨⟨(b0.keep k8).c0, (b0.keep k8).c1, (b0.keep k8).c2⟩, (bp.keep k8).c6⟩ ?_)
        rw [HFW.out]
        replace kk := kk.keep k8
        replace b0 := b0.keep k8
        replace hO := hO.keep k8
        clear hK K hS k8 bp
        have hS : True := trivial
        simp only [List.getElem_toArray, List.getElem_cons_succ, List.getElem_cons_zero, Act.put, List.setIfInBounds_toArray, List.set_cons_zero, List.set_cons_succ]
        refine wpAnyK_tail 6 rfl (by kernel_rfl) ?_
        simp only [List.drop_succ_cons, List.drop_zero]
        clear hS
        have hlt8 := b0.lt
        go_wp2_with (at_builtin; refine wappS1 elA2 (by omega) rfl (.tmp 19) (.tmp 26) rfl hO rfl (by simp [Value.oneCell']) rfl rfl (by omega) (by omega) ?_)
        intro v' wN o2 k2 _
        have bN := b0.step k2 (fun hq => by have := (hO.lt _ hq).1; omega)
        have kN := chg_ownS kk k2 hO (by omega)
        obtain ⟨na, nc, rfl, _⟩ := o2.view
        have HN2 := Lib.hid o2
        have HKN := Lib.hid (And.intro bN kN)
        clear o2 bN kN k2 hO kk b0
        go_wp2_with fail
        go_round
        case measure => simp [intOf]; omega
        case rel => exact ⟨j + 1, by omega, by go_num, by rw [HSN.out]; exact HN2.out, HKN.out.1, HKN.out.2⟩
      · have hje : j = ps.length := by omega
        subst hje
        go_wp2_with fail
        exact bodyPost_ret (v := .tuple #[.slice oa ps.length oc, .bool true]) (by simp [results, Try.results8, go_sem]) rfl ⟨_, _, rfl, by rw [HT.out], by rw [HN.out]; exact hO.weak (by omega), kk⟩
end Go.Proofs.Ytodnkkmjjlfoiaa
