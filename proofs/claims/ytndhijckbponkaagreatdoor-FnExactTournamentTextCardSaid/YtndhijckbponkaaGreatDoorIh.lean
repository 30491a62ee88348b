import Derived.Test.YtndhijckbponkaaGreatDoorIg
import Derived.Test.YtndhijckbponkaaGreatDoorTe
import Derived.Test.YtndhijckbponkaaGreatDoorTi
import Derived.Test.YtndhijckbponkaaGreatDoorCo
/- TournamentText, both sides, and its law -/
namespace Go.Proofs.YtndhijckbponkaaGreatDoor
open Go.RowKit

def ttxT (t : To) : List UInt8 := if tourB t then touT t else []
set_option maxRecDepth 100000 in
theorem implText_any (v : Value) (t : To) (w : World) (h : RT No w v t) (hw : Lay w) :
    Calls Tryz.prog 9 #[v] w fun e w' => e = .returned (.tuple #[.string ⟨(ttxT t).toArray⟩, .bool (tourB t)]) ∧ Chg No w w' := by
  have h0 := h
  obtain ⟨it, ps, rq⟩ := t
  obtain ⟨pv, rv, rfl, hps, hrq⟩ := h
  simp only at hps hrq
  obtain ⟨ra, rn, rc, rfl⟩ := hrq.shape
  obtain ⟨pa, pn, pc, rfl⟩ := hps.shape
  clear hps hrq
  have k0 := (Chg.refl No w).alloc (.cells #[.int .i64 it, .slice pa pn pc, .slice ra rn rc] 31)
  have b0 := Box3.new w (.int .i64 it) (.slice pa pn pc) (.slice ra rn rc) 31
  cases ht : tourB ⟨it, ps, rq⟩
  · have HT := Lib.hid ht
    have HX : Hid (ttxT ⟨it, ps, rq⟩ = []) := Lib.hid (by unfold ttxT; rw [ht]; rfl)
    clear ht
    go_enter Tryz.func9, Tryz.ntmps9
    go_wp2_with fail
    refine (IsTournament_any _ ⟨it, ps, rq⟩ _ (h0.keep k0)).mono ?_
    rintro e w1 ⟨_, rfl, rfl, k1⟩
    rw [HT.out]
    go_wp2_with fail
    go_ret2
    exact ⟨ret2_eq (by rw [HX.out]; rfl) rfl, k0.keep k1⟩
  · have HT := Lib.hid ht
    have HX : Hid (ttxT ⟨it, ps, rq⟩ = touT ⟨it, ps, rq⟩) := Lib.hid (by unfold ttxT; rw [ht]; rfl)
    clear ht
    go_enter Tryz.func9, Tryz.ntmps9
    go_wp2_with fail
    refine (IsTournament_any _ ⟨it, ps, rq⟩ _ (h0.keep k0)).mono ?_
    rintro e w1 ⟨_, rfl, rfl, k1⟩
    rw [HT.out]
    have b1 := b0.keep k1
    have kk := k0.keep k1
    obtain ⟨c0, c1, c2, _⟩ := id b1
    go_wp2_with fail
    refine (tournamentText_any _ ⟨it, ps, rq⟩ _ (h0.keep kk) HT.out (hw.keep kk)).mono ?_
    rintro e w2 ⟨rfl, k2⟩
    go_wp2_with fail
    go_ret2
    exact ⟨ret2_eq (by rw [HX.out]; rfl) rfl, kk.keep k2⟩

set_option maxRecDepth 100000 in
theorem specText_any (v : Value) (t : To) (w : World) (h : RT No w v t) :
    Calls Tryz.prog 7 #[v] w fun e w' => e = .returned (.tuple #[.string ⟨(ttxT t).toArray⟩, .bool (tourB t)]) ∧ Chg No w w' := by
  have h0 := h
  obtain ⟨it, ps, rq⟩ := t
  obtain ⟨pv, rv, rfl, hps, hrq⟩ := h
  simp only at hps hrq
  obtain ⟨ra, rn, rc, rfl⟩ := hrq.shape
  obtain ⟨pa, pn, pc, rfl⟩ := hps.shape
  clear hps hrq
  have k0 := (Chg.refl No w).alloc (.cells #[.int .i64 it, .slice pa pn pc, .slice ra rn rc] 31)
  have b0 := Box3.new w (.int .i64 it) (.slice pa pn pc) (.slice ra rn rc) 31
  cases ht : tourB ⟨it, ps, rq⟩
  · have HT := Lib.hid ht
    have HX : Hid (ttxT ⟨it, ps, rq⟩ = []) := Lib.hid (by unfold ttxT; rw [ht]; rfl)
    clear ht
    go_enter Tryz.func7, Tryz.ntmps7
    go_wp2_with fail
    refine (l12Tour_any _ ⟨it, ps, rq⟩ _ (h0.keep k0)).mono ?_
    rintro e w1 ⟨_, rfl, rfl, k1⟩
    rw [HT.out]
    go_wp2_with fail
    go_ret2
    exact ⟨ret2_eq (by rw [HX.out]; rfl) rfl, k0.keep k1⟩
  · have HT := Lib.hid ht
    have HX : Hid (ttxT ⟨it, ps, rq⟩ = touT ⟨it, ps, rq⟩) := Lib.hid (by unfold ttxT; rw [ht]; rfl)
    clear ht
    go_enter Tryz.func7, Tryz.ntmps7
    go_wp2_with fail
    refine (l12Tour_any _ ⟨it, ps, rq⟩ _ (h0.keep k0)).mono ?_
    rintro e w1 ⟨_, rfl, rfl, k1⟩
    rw [HT.out]
    have b1 := b0.keep k1
    have kk := k0.keep k1
    obtain ⟨c0, c1, c2, _⟩ := id b1
    go_wp2_with fail
    refine (l12Text_any _ ⟨it, ps, rq⟩ _ (h0.keep kk) HT.out).mono ?_
    rintro e w2 ⟨rfl, k2⟩
    go_wp2_with fail
    go_ret2
    exact ⟨ret2_eq (by rw [HX.out]; rfl) rfl, kk.keep k2⟩

set_option maxRecDepth 100000 in
set_option maxHeartbeats 2000000 in
theorem law_TournamentText (it : Int) (v : Value) (m : Nat) (pn mn : Nat → Nat) (ra : Option Addr) (rn rc : Nat) (w : World) (h : RawPS w v m pn mn) (hrn : rn ≤ 9223372036854775807) (hr : rn ≤ 17592186044416 → ∃ l : List Int, l.length = rn ∧ RI No w (.slice ra rn rc) l) (hw : Lay w) :
    Calls Tryz.prog 3 #[.agg #[.int .i64 it, v, .slice ra rn rc]] w fun e w' => e = .returned (.bool true) ∧ Chg No w w' := by
  obtain ⟨pa, pc, rfl, hpc, hpc2, _⟩ := id h
  have k0 := (Chg.refl No w).alloc (.cells #[.int .i64 it, .slice pa m pc, .slice ra rn rc] 25)
  have b0 := Box3.new w (.int .i64 it) (.slice pa m pc) (.slice ra rn rc) 25
  have hP : RawPS (w.alloc (.cells #[.int .i64 it, .slice pa m pc, .slice ra rn rc] 25)) (.slice pa m pc) m pn mn := h.keep k0
  obtain ⟨f, hf⟩ : ∃ f, (fun i => pn i + mn i) = f := ⟨_, rfl⟩
  by_cases hfit : m + totN f m + rn ≤ 1048576
  · have E1 : Hid (szTo m (fun i => pn i + mn i) rn 1048576 = 1048576 - m - totN f m - rn) := Lib.hid (by rw [hf]; unfold szTo; rw [if_pos (by omega)])
    have hn1 : ¬ (1048576 : Int) - m - (totN f m : Int) - rn < 0 := by omega
    obtain ⟨rq, hrl, hrq⟩ := hr (by omega)
    obtain ⟨ps, hpl, hps⟩ := h.read (by omega) (by rw [hf]; omega)
    have hT : RT No w (.agg #[.int .i64 it, .slice pa m pc, .slice ra rn rc]) ⟨it, ps, rq⟩ := ⟨_, _, rfl, hps, hrq⟩
    generalize (⟨it, ps, rq⟩ : To) = t at hT
    clear hfit h hr hf hrl hpl hrq hps
    obtain ⟨X, hX⟩ : ∃ X, ttxT t = X := ⟨_, rfl⟩
    obtain ⟨ok, hok⟩ : ∃ ok, tourB t = ok := ⟨_, rfl⟩
    have QS := Lib.hid (fun v W h => specText_any v t W h)
    have QI := Lib.hid (fun v W h hl => implText_any v t W h hl)
    rw [hX, hok] at QS QI
    clear hX hok
    go_enter Tryz.func3, Tryz.ntmps3
    go_wp2_with fail
    refine (szTournament_any it _ m pn mn ra rn rc _ _ hP hrn (by omega) (by omega)).mono ?_
    rintro e w1 ⟨_, rfl, rfl, k1⟩
    rw [E1.out]
    have b0 := b0.keep k1
    have kk := k0.keep k1
    obtain ⟨c0, c1, c2, _⟩ := id b0
    go_wp2_with fail
    refine (toTournament_any _ t _ (hT.keep kk)).mono ?_
    rintro e w2 ⟨v2, rfl, r2, k2⟩
    have b0 := b0.keep k2
    have kk := kk.keep k2
    clear c0 c1 c2
    go_wp2_with fail
    refine (QS.out _ _ r2).mono ?_
    rintro e w3 ⟨rfl, k3⟩
    have b0 := b0.keep k3
    have kk := kk.keep k3
    obtain ⟨c0, c1, c2, _⟩ := id b0
    go_wp2_with fail
    refine (toTournament_any _ t _ (hT.keep kk)).mono ?_
    rintro e w4 ⟨v4, rfl, r4, k4⟩
    have b0 := b0.keep k4
    have kk := kk.keep k4
    have r4' := r4
    obtain ⟨xp, xr, rfl, hxp, hxr⟩ := r4
    obtain ⟨xa, xn, xc, rfl⟩ := hxp.shape
    obtain ⟨ya, yn, yc, rfl⟩ := hxr.shape
    clear c0 c1 c2
    go_wp2_with fail
    refine box31 (R := fun W => Calls _ _ _ W _) (fun W kW bx => ?_)
    have b0 := b0.keep kW
    have kk := kk.keep kW
    have r4 := r4'.keep kW
    refine (QI.out _ W r4 (hw.keep kk)).mono ?_
    rintro e w5 ⟨rfl, k5⟩
    have b0 := b0.keep k5
    have bx := bx.keep k5
    have kk := kk.keep k5
    have r4 := r4.keep k5
    go_wp2_with fail
    refine wp_region_K (S := fun W => Box3 W w4.heap.size (.int .i64 t.items) (.slice xa xn xc) (.slice ya yn yc)) (k := 3) (by kernel_rfl) ?_
    have hd := (Chg.refl No w5).drew
    have b0 := b0.keep hd
    have bx := bx.keep hd
    have kk := kk.keep hd
    have r4 := r4.keep hd
    generalize w5.drew = W5 at b0 bx kk r4 ⊢
    clear hd
    refine wpAnyK_take 0 (.agg #[.int .i64 t.items, .slice xa xn xc, .slice ya yn yc]) rfl (by kernel_rfl) (fun _ _ _ h => h) bx rfl (by rintro w ⟨c0, c1, c2, fr⟩; go_simp) ?_
    simp only [List.getElem_toArray, List.getElem_cons_zero, Act.put, List.setIfInBounds_toArray, List.set_cons_zero, List.set_cons_succ]
    refine wpAnyK_1 1 (by kernel_rfl) (wpOpK' rfl rfl ?_)
    intro K hK
    obtain ⟨c0, c1, c2, fr⟩ := id b0
    unfold Oper.wp execOp
    go_simp
    refine hK.out _ _ bx ?_
    clear hK K c0 c1 c2 fr
    simp only [List.setIfInBounds_toArray]
    refine wpAnyK_1 2 (by kernel_rfl) (wpOpK' rfl rfl ?_)
    intro K hK
    refine ocall (f := 8) (args := #[.agg #[.int .i64 it, .slice pa m pc, .slice ra rn rc]]) (by go_simp) (toTournament_any _ t W5 (hT.keep kk)) (fun v6 w6 h6 => hK.out _ _ (bx.keep h6.2) ?_)
    obtain ⟨r6, k6⟩ := h6
    clear hK K
    simp only [List.getElem_toArray, List.getElem_cons_succ, List.getElem_cons_zero, Act.put, List.setIfInBounds_toArray, List.set_cons_zero, List.set_cons_succ]
    have kk := kk.keep k6
    have r4 := r4.keep k6
    refine wpAnyK_tail 3 rfl (by kernel_rfl) ?_
    simp only [List.drop_succ_cons, List.drop_zero]
    go_wp2_with fail
    refine (eqTournament_same _ _ t w6 r4 r6).mono ?_
    rintro e w7 ⟨_, rfl, rfl, k7⟩
    go_wp2_with fail
    go_ret
    exact ⟨rfl, kk.keep k7⟩
  · have E1 : Hid (szTo m (fun i => pn i + mn i) rn 1048576 = -1) := Lib.hid (by rw [hf]; unfold szTo; rw [if_neg (by omega)])
    clear hfit h hr hf
    go_enter Tryz.func3, Tryz.ntmps3
    go_wp2_with fail
    refine (szTournament_any it _ m pn mn ra rn rc _ _ hP hrn (by omega) (by omega)).mono ?_
    rintro e w1 ⟨_, rfl, rfl, k1⟩
    rw [E1.out]
    go_wp2_with fail
    go_ret
    exact ⟨rfl, k0.keep k1⟩
end Go.Proofs.YtndhijckbponkaaGreatDoor
