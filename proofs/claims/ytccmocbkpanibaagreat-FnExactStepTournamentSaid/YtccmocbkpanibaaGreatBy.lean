import Derived.Test.YtccmocbkpanibaaGreatBv
/- a marked Tournament looked at -/
namespace Go.Proofs.YtccmocbkpanibaaGreat
open Go.RowKit

set_option maxRecDepth 100000 in
set_option maxHeartbeats 4000000 in
theorem heldPlayerS_any (v : Value) (ls : List Pl) (k : Int) (w : World) (h : RPS No w v (mkTo k ls ls.length)) (hk : 0 ≤ k) (hk' : k + totPl ls ≤ 100000000) :
    Calls Tryz.prog 53 #[v, .int .i64 k] w (Ret fun r w' => r = .int .i64 (k + totPl ls) ∧ Chg No w w') := by
  have hml := mkTo_len k ls ls.length
  obtain ⟨a, cap, rfl, hcap, hmax, hlen, pf, mf, hl, hcl⟩ := id h
  rw [hml] at hcap hlen hl ⊢
  have hcl' : ls.length ≠ 0 → ∃ b off, a = some ⟨b, off, none⟩ ∧ b < w.heap.size ∧ ∀ i, i < ls.length → Cell7 w b (off + i * 7) ((mkTo k ls ls.length).getD i dPl) (pf i) (mf i) := fun hne => by
    obtain ⟨b, off, h1, _, h2, h3⟩ := hcl (fun e => hne (by have := congrArg List.length e; rw [hml] at this; simpa using this))
    exact ⟨b, off, h1, h2, fun i hi => h3 i (by rw [hml]; exact hi)⟩
  have HL := Lib.hid hl
  have HC := Lib.hid hcl'
  clear hl hcl hcl' hml
  go_enter Tryz.func53, Tryz.ntmps53
  go_wp2_with fail
  go_loopw [1, 5] (fun s i wr => ∃ j : Nat, j ≤ ls.length ∧ i = .int .i64 (j : Int) ∧ s = .int .i64 (k + totPl (ls.take j)) ∧ wr = w) (fun _ i _ => ls.length - (intOf i).toNat)
  case atStart => exact ⟨0, Nat.zero_le _, rfl, by simp [totPl], rfl⟩
  case round =>
    obtain ⟨j, hj, rfl, rfl, rfl⟩ := hrel
    have hj0 : (0 : Int) ≤ (j : Int) := Int.natCast_nonneg _
    by_cases hlt : j < ls.length
    · have hj1 : (j : Int) < (ls.length : Int) := by omega
      have hwj : IntKind.i64.wrap ((j : Int) + 1) = (j : Int) + 1 := IntWalk.i64_in _ (by omega)
      obtain ⟨b, off, rfl, hb, hcell⟩ := HC.out (by omega)
      have h7 := hcell j hlt
      obtain ⟨hpj, hmj⟩ := HL.out j hlt
      have hbl := mkTo_below k ls ls.length (Nat.le_refl _) j hlt
      have hsn := totPl_snoc ls j hlt
      have hle := totPl_le ls (j + 1)
      obtain ⟨x, hx⟩ : ∃ x, ls.getD j dPl = x := ⟨_, rfl⟩
      obtain ⟨K, hK⟩ : ∃ K : Int, k + totPl (ls.take j) = K := ⟨_, rfl⟩
      rw [hx] at hbl hsn
      rw [hK] at hbl ⊢
      rw [hbl] at h7 hpj hmj
      have hsz : szPl x = 5 + x.ca.pages.length + x.ca.marks.length := rfl
      obtain ⟨np, hnp⟩ : ∃ np, x.ca.pages.length = np := ⟨_, rfl⟩
      obtain ⟨nm, hnm⟩ : ∃ nm, x.ca.marks.length = nm := ⟨_, rfl⟩
      rw [hnp, hnm] at hsz
      have hKe : k + (totPl (ls.take (j + 1)) : Int) = K + 3 + np + nm + 1 + 1 := by omega
      have hK0 : 0 ≤ K := by omega
      have hK1 : K + 5 + np + nm ≤ 100000000 := by omega
      have HKE := Lib.hid hKe
      unfold mkPl at h7 hpj hmj
      rw [hnp, hnm] at h7
      simp only [hnp, hnm] at hpj hmj
      have hw1 : IntKind.i64.wrap (K + 1) = K + 1 := IntWalk.i64_in _ (by omega)
      have hw2 : IntKind.i64.wrap (K + 1 + 1) = K + 2 := (IntWalk.i64_in _ (by omega)).trans (by omega)
      have hw3 : IntKind.i64.wrap (K + 2 + 1) = K + 3 := (IntWalk.i64_in _ (by omega)).trans (by omega)
      have hw4 : IntKind.i64.wrap (K + 3 + (np : Int) + (nm : Int) + 1) = K + 3 + np + nm + 1 := IntWalk.i64_in _ (by omega)
      have hw5 : IntKind.i64.wrap (K + 3 + (np : Int) + (nm : Int) + 1 + 1) = K + 3 + np + nm + 1 + 1 := IntWalk.i64_in _ (by omega)
      have hng1 : ¬ K + 3 + (np : Int) < 0 := by omega
      have hng2 : ¬ K + 3 + (np : Int) + (nm : Int) < 0 := by omega
      generalize pf j = pj at hpj h7
      generalize mf j = mj at hmj h7
      obtain ⟨ya, yn, yc, rfl⟩ := hpj.shape
      obtain ⟨za, zn, zc, rfl⟩ := hmj.shape
      obtain ⟨c0, c1, c2, c3, c4, c5, c6⟩ := id h7
      clear hcell hx hK hbl hsn hle hsz hKe h7 hnp hnm
      go_wp2_with fail
      refine (heldIntS_any No _ np (K + 3) _ hpj (by omega)).mono ?_
      rintro e w1 ⟨rfl, rfl⟩
      go_wp2_with fail
      refine (heldIntS_any No _ nm (K + 3 + np) _ hmj (by omega)).mono ?_
      rintro e w1 ⟨rfl, rfl⟩
      go_wp2_with fail
      go_round
      case measure => simp [intOf]; omega
      case rel => exact ⟨j + 1, by omega, by go_num, by rw [HKE.out], by trivial⟩
    · have hje : j = ls.length := by omega
      subst hje
      rw [List.take_length]
      go_wp2_with fail
      go_ret
      exact ⟨_, rfl, rfl, Chg.refl _ _⟩

set_option maxRecDepth 100000 in
set_option maxHeartbeats 1000000 in
theorem heldTournament_any (v : Value) (t : To) (k : Int) (w : World) (h : RT No w v (markT k t)) (hk : 0 ≤ k) (hk' : k + totPl t.ps ≤ 100000000) :
    Calls Tryz.prog 14 #[v, .int .i64 k] w (Ret fun r w' => r = .int .i64 (k + totPl t.ps + t.reqs.length) ∧ Chg No w w') := by
  obtain ⟨it, ps, rq⟩ := t
  obtain ⟨pv, rv, rfl, hps, hrq⟩ := h
  simp only [markT] at hps hrq hk' ⊢
  obtain ⟨ra, rn, rc, rfl⟩ := hrq.shape
  obtain ⟨pa, pn, pc, rfl⟩ := hps.shape
  have k0 := (Chg.refl No w).alloc (.cells #[.int .i64 it, .slice pa pn pc, .slice ra rn rc] 31)
  have b0 := Box3.new w (.int .i64 it) (.slice pa pn pc) (.slice ra rn rc) 31
  obtain ⟨c0, c1, c2, _⟩ := id b0
  have hn1 : ¬ k + (totPl ps : Int) < 0 := by omega
  have hn2 : ¬ k + (totPl ps : Int) + (rq.length : Int) < 0 := by omega
  go_enter Tryz.func14, Tryz.ntmps14
  go_wp2_with fail
  refine (heldPlayerS_any _ ps k _ (hps.keep k0) hk hk').mono ?_
  rintro e w1 ⟨_, rfl, rfl, k1⟩
  have b0 := b0.keep k1
  have kk := k0.keep k1
  clear c0 c1 c2
  obtain ⟨c0, c1, c2, _⟩ := id b0
  go_wp2_with fail
  refine (heldIntS_any No _ rq.length (k + totPl ps) w1 (hrq.keep kk) (by omega)).mono ?_
  rintro e w2 ⟨rfl, rfl⟩
  go_wp2_with fail
  go_ret
  exact ⟨_, rfl, rfl, kk⟩
end Go.Proofs.YtccmocbkpanibaaGreat
