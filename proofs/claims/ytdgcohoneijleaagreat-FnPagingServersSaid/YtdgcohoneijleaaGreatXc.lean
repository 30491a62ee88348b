import Derived.Test.YtdgcohoneijleaaGreatPa
import Derived.Test.YtdgcohoneijleaaGreatPkX5
import Derived.Test.YtdgcohoneijleaaGreatPkX2
import Derived.Test.YtdgcohoneijleaaGreatJ
import Derived.Test.YtdgcohoneijleaaGreatK
/- slices.Repeat -/
namespace Go.Proofs.YtdgcohoneijleaaGreat
open Go.RowKit

theorem oi_put {base g n : Nat} {w : World} {l m : List Int} (h : OI base w (.slice (some ⟨g, 0, none⟩) n n) l) (o dLen dCap : Nat) (a : Addr) (sLen sCap : Nat)
    (hm : m.length ≤ sLen ∧ m.length ≤ dLen ∧ (sLen ≤ m.length ∨ dLen ≤ m.length)) (hsrc : ∀ j, j < m.length → w.cell? (a.add j) = some (.int .i64 (m.getD j 0))) (hfit : o + m.length ≤ n) :
    ∃ w', (∀ ty, (Builtin.copy_ #[25, 25] ty #[.slice (some ⟨g, o, none⟩) dLen dCap, .slice (some a) sLen sCap]).run Tryz.prog w = .ok (goInt m.length) w') ∧
      OI base w' (.slice (some ⟨g, 0, none⟩) n n) (l.take o ++ m ++ l.drop (o + m.length)) ∧ Chg (fun k => k = g) w w' := by
  obtain ⟨cur, hg, hs, ht, hn, hc, hmx, hb, hlt⟩ := h.row
  have hL := h.len
  have hcl : cur.toList = l.map (Value.int .i64) := by rw [← ht, List.take_of_length_le (by simp; omega)]
  obtain ⟨w', h1, h2, h3⟩ := run_copyI w (cur := cur.toList) (by simpa using hg) o dLen dCap a sLen sCap m hm hsrc (by simp; omega)
  have hlen : (l.take o ++ m ++ l.drop (o + m.length)).length = n := by simp; omega
  refine ⟨w', h1, OI.ofRow h2 (by simp; omega) ?_ hlen.symm (Nat.le_refl _) hmx hb (by omega), h3⟩
  rw [hcl, hlen, List.toList_toArray, List.take_of_length_le (by simp; omega)]
  simp [List.map_append, List.map_take, List.map_drop]
def repX (x : Int) (k n : Nat) : List Int := List.replicate k x ++ List.replicate (n - k) 0
theorem repX_len (x : Int) {k n : Nat} (h : k ≤ n) : (repX x k n).length = n := by unfold repX; simp; omega
theorem repX_get (x : Int) {k n j : Nat} (h : j < k) : (repX x k n).getD j 0 = x := by
  unfold repX
  rw [List.getD_eq_getElem?_getD, List.getElem?_append_left (by simpa using h), List.getElem?_replicate, if_pos h]; rfl
theorem repX_full (x : Int) (n : Nat) : repX x n n = List.replicate n x := by unfold repX; simp
theorem repX_step (x : Int) {k n m : Nat} (h : k + m ≤ n) : (repX x k n).take k ++ List.replicate m x ++ (repX x k n).drop (k + m) = repX x (k + m) n := by
  unfold repX
  rw [List.take_append_of_le_length (by simp), List.take_of_length_le (by simp), List.drop_append, List.drop_eq_nil_of_le (by simp), List.nil_append, List.length_replicate, List.drop_replicate, List.replicate_append_replicate]
  congr 2
  omega
theorem ocopy {o : Oper} {a : Act} {K : Act → World → Prop} {Q : Exit → Act → World → Prop} {w : World} (s x : Operand) (t tn : TypeId)
    (ho : o.op = .call { callee := .builtin .copy, args := #[s, x], argTypes := #[t, tn] }) {vs vx v' : Value} {w' : World} (hr : ∀ ty, (Builtin.copy_ #[t, tn] ty #[vs, vx]).run Tryz.prog w = .ok v' w') (hs : a.eval s = vs) (hx : a.eval x = vx)
    (hk : K (a.put o.dst v') w') : Oper.wp Tryz.prog o a w K Q := by
  unfold Oper.wp execOp
  simp only [ho, resolve, invoke, builtin, Sem.run_bind, Sem.run_pure, Result.andThen_ok, List.map_toArray, List.map_cons, List.map_nil, hs, hx, hr]
  exact hk
set_option maxRecDepth 100000 in
set_option maxHeartbeats 2000000 in
theorem repeat_any (b : Nat) (x : Int) (n : Nat) (w : World) (hb : w.cell? ⟨b, 0, none⟩ = some (.int .i64 x)) (h1 : 1 ≤ n) (h4 : n ≤ 1000) :
    Calls Tryz.prog 77 #[.slice (some ⟨b, 0, none⟩) 1 1, .int .i64 (n : Int)] w (Ret fun v w' => v = .slice (some ⟨w.heap.size, 0, none⟩) n n ∧ OI w.heap.size w' (.slice (some ⟨w.heap.size, 0, none⟩) n n) (List.replicate n x) ∧ Chg No w w') := by
  have h10 : 0 < (n : Int) := by omega
  go_enter Tryz.func77, Tryz.ntmps77
  go_wp2_with fail
  refine (Tryz.bits_Mul 1 n (by omega) (by omega) w).mono ?_
  rintro e w1 ⟨rfl, rfl⟩
  have h2 : ((1 * n / 18446744073709551616 : Nat) : Int) = 0 := by omega
  have h3 : ((1 * n % 18446744073709551616 : Nat) : Int) = (n : Int) := by omega
  rw [h2, h3]
  have h5 : IntKind.i64.wrap (n : Int) = (n : Int) := IntWalk.i64_in _ (by omega)
  have hbz := World.block_lt_of_cell? _ _ hb
  clear h2 h3
  go_wp2_with (refine wmake rfl (.tmp 29) (.tmp 29) rfl n rfl rfl (by omega) ?_)
  intro w2 ho k2
  have kb := (k2.cellD b 0 hbz (fun e => e)).trans hb
  obtain ⟨w3, hr3, ho3, k3⟩ := oi_put (m := [x]) ho 0 n n ⟨b, 0, none⟩ 1 1 (by simp; omega) (fun j hj => by
    have : j = 0 := by simpa using hj
    subst this
    exact kb) (by simpa using h1)
  have e3 : (List.replicate n (0 : Int)).take 0 ++ [x] ++ (List.replicate n (0 : Int)).drop (0 + [x].length) = repX x 1 n := by simp [repX]
  rw [e3] at ho3
  have kk3 := k2.step k3 (fun q e hlt => by omega)
  obtain ⟨g, hg⟩ : ∃ g, w1.heap.size = g := ⟨_, rfl⟩
  rw [hg] at ho3 hr3 k3 ⊢
  have HG := Lib.hid hg
  clear e3 ho k2 kb hb hbz hg
  go_wp2_with (at_builtin; refine wcopy_run rfl (.tmp 31) (.tmp 32) _ _ rfl hr3 rfl rfl ?_)
  clear hr3
  go_wp2_with fail
  go_loopw [8] (fun z wr => ∃ k : Nat, 1 ≤ k ∧ k ≤ n ∧ z = .int .i64 (k : Int) ∧ OI g wr (.slice (some ⟨g, 0, none⟩) n n) (repX x k n) ∧ Chg No w1 wr) (fun z _ => n - (intOf z).toNat)
  case atStart => exact ⟨1, Nat.le_refl _, h1, rfl, ho3, kk3⟩
  case round =>
    clear ho3 kk3 k3
    obtain ⟨k, hk1, hkn, rfl, ho, kr⟩ := hrel
    have hk0 : (0 : Int) ≤ (k : Int) := Int.natCast_nonneg _
    have hkn' : (k : Int) ≤ (n : Int) := by omega
    by_cases hlt : k < n
    · have hlt' : (k : Int) < (n : Int) := by omega
      have hnk : ¬ n = k := by omega
      obtain ⟨m, hm⟩ : ∃ m : Nat, m = min k (n - k) := ⟨_, rfl⟩
      have hw : IntKind.i64.wrap ((k : Int) + (m : Int)) = ((k + m : Nat) : Int) := by rw [IntWalk.i64_in _ (by omega)]; omega
      have HM := Lib.hid hm
      clear hm
      go_wp2_with fail
      refine wp_region_K (S := fun _ => True) (k := 9) (by kernel_rfl) ?_
      replace ho := ho.keep (drewN0 _)
      replace kr := kr.keep (drewN0 _)
      generalize wr.drew = W2 at ho kr ⊢
      have hS : True := trivial
      refine wpAnyK_take0 0 (.int .i64 (k : Int)) rfl (by kernel_rfl) (fun _ _ _ h => h) hS rfl (by intro w; go_simp) ?_
      simp only [List.getElem_toArray, List.getElem_cons_zero, Act.put, List.setIfInBounds_toArray, List.set_cons_zero, List.set_cons_succ]
      refine wpAnyK_take0 1 (.slice (some ⟨g, 0, none⟩) n n) rfl (by kernel_rfl) (fun _ _ _ h => h) hS rfl (by intro w; go_simp) ?_
      simp only [List.getElem_toArray, List.getElem_cons_succ, List.getElem_cons_zero, Act.put, List.setIfInBounds_toArray, List.set_cons_zero, List.set_cons_succ]
      refine wpAnyK_take0 2 (.int .i64 (k : Int)) rfl (by kernel_rfl) (fun _ _ _ h => h) hS rfl (by intro w; go_simp) ?_
      simp only [List.getElem_toArray, List.getElem_cons_succ, List.getElem_cons_zero, Act.put, List.setIfInBounds_toArray, List.set_cons_zero, List.set_cons_succ]
      refine wpAnyK_take0 3 (.slice (some ⟨g, k, none⟩) (n - k) (n - k)) rfl (by kernel_rfl) (fun _ _ _ h => h) hS rfl (by intro w; go_simp) ?_
      simp only [List.getElem_toArray, List.getElem_cons_succ, List.getElem_cons_zero, Act.put, List.setIfInBounds_toArray, List.set_cons_zero, List.set_cons_succ]
      refine wpAnyK_take0 4 (.slice (some ⟨g, 0, none⟩) n n) rfl (by kernel_rfl) (fun _ _ _ h => h) hS rfl (by intro w; go_simp) ?_
      simp only [List.getElem_toArray, List.getElem_cons_succ, List.getElem_cons_zero, Act.put, List.setIfInBounds_toArray, List.set_cons_zero, List.set_cons_succ]
      refine wpAnyK_take0 5 (.int .i64 (k : Int)) rfl (by kernel_rfl) (fun _ _ _ h => h) hS rfl (by intro w; go_simp) ?_
      simp only [List.getElem_toArray, List.getElem_cons_succ, List.getElem_cons_zero, Act.put, List.setIfInBounds_toArray, List.set_cons_zero, List.set_cons_succ]
      refine wpAnyK_take0 6 (.slice (some ⟨g, 0, none⟩) k n) rfl (by kernel_rfl) (fun _ _ _ h => h) hS rfl (by intro w; go_simp) ?_
      simp only [List.getElem_toArray, List.getElem_cons_succ, List.getElem_cons_zero, Act.put, List.setIfInBounds_toArray, List.set_cons_zero, List.set_cons_succ]
      clear hS
      obtain ⟨w4, hr4, ho4, k4⟩ := oi_put (m := List.replicate m x) ho k (n - k) (n - k) ⟨g, 0, none⟩ k n (by have := HM.out; simp; omega) (fun j hj => by
        rw [List.length_replicate] at hj
        have h9 := HM.out
        rw [List.getD_eq_getElem?_getD, List.getElem?_replicate, if_pos hj]
        have h8 := ho.at.1 j (by rw [repX_len x hkn]; omega)
        rw [repX_get x (by omega)] at h8
        rw [show (⟨g, 0, none⟩ : Addr).add j = ⟨g, j, none⟩ by simp [Addr.add]; try omega]
        exact h8) (by have := HM.out; simp; omega)
      rw [List.length_replicate, repX_step x (by have := HM.out; omega)] at ho4
      rw [List.length_replicate] at hr4
      have kr4 := kr.step k4 (fun q e hlt => by have := HG.out; omega)
      refine wpAnyK_1 7 (by kernel_rfl) (wpOpK' rfl rfl ?_)
      intro K hK
      refine ocopy (.tmp 41) (.tmp 44) _ _ rfl hr4 rfl rfl ?_
      refine hK.out _ _ trivial ?_
      clear hK K hr4 k4 ho kr
      simp only [List.getElem_toArray, List.getElem_cons_succ, List.getElem_cons_zero, Act.put, List.setIfInBounds_toArray, List.set_cons_zero, List.set_cons_succ]
      have hS : True := trivial
      refine wpAnyK_take0 8 (.int .i64 ((k + m : Nat) : Int)) rfl (by kernel_rfl) (fun _ _ _ h => h) hS rfl (by intro w; go_simp) ?_
      simp only [List.getElem_toArray, List.getElem_cons_succ, List.getElem_cons_zero, Act.put, List.setIfInBounds_toArray, List.set_cons_zero, List.set_cons_succ]
      refine wpAnyK_tail 9 rfl (by kernel_rfl) ?_
      simp only [List.drop_succ_cons, List.drop_zero]
      go_wp2_with fail
      go_round
      case rel => exact ⟨k + m, by omega, by have := HM.out; omega, rfl, ho4, kr4⟩
      case measure => have := HM.out; simp [intOf]; omega
    · have hke : k = n := by omega
      subst hke
      rw [repX_full] at ho
      have HF := Lib.hid (And.intro ho kr)
      clear ho kr
      go_wp2_with fail
      go_ret
      exact ⟨_, rfl, by rw [HG.out]; rfl, by rw [HG.out]; exact HF.out.1, HF.out.2⟩
end Go.Proofs.YtdgcohoneijleaaGreat
