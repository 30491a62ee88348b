import Derived.Test.YtdgcohoneijleaaGreatDoorUc
import Derived.Test.YtdgcohoneijleaaGreatDoorPkX8
import Derived.Test.YtdgcohoneijleaaGreatDoorPkX4
import Derived.Test.YtdgcohoneijleaaGreatDoorPkX1
import Derived.Test.YtdgcohoneijleaaGreatDoorPkX2
set_option maxRecDepth 100000
namespace Go.Proofs.YtdgcohoneijleaaGreatDoor
open Go.RowKit
theorem RI.lit (A : Nat → Prop) (W : World) (l : List Int) (cs : Array Value) (T : TypeId) (g n m : Nat) (hg : W.heap.size = g) (hcs : cs.toList = l.map (Value.int .i64)) (hm : m = l.length) (hn : n ≤ m) (hA : ¬ A g) (hl : l.length ≤ 1000) :
  RI A (W.alloc (.cells cs T)) (.slice (some ⟨g, 0, none⟩) n m) (l.take n) := by
 subst hg hm
 have hlt : (l.take n).length = n := by rw [List.length_take]; omega
 have hsz : cs.size = l.length := by rw [← Array.length_toList, hcs, List.length_map]
 refine ⟨some ⟨W.heap.size, 0, none⟩, l.length, by rw [hlt], by omega, by omega, by omega, (fun h => by cases h), fun _ => ⟨W.heap.size, 0, rfl, hA, by rw [World.size_alloc]; omega, fun i hi => ?_⟩⟩
 rw [hlt] at hi
 rw [Nat.zero_add, World.cell?_alloc_new]
 have h1 : cs[i]? = some (.int .i64 (l.getD i 0)) := by
  rw [← Array.getElem?_toList, hcs, List.getElem?_map, List.getD_eq_getElem?_getD, List.getElem?_eq_getElem (by omega : i < l.length)]
  rfl
 rw [h1]
 congr 2
 rw [List.getD_eq_getElem?_getD, List.getD_eq_getElem?_getD, List.getElem?_take_of_lt hi]
theorem take_all (l : List Int) (n : Nat) (h : n = l.length) : l.take n = l := by subst h; exact List.take_length
theorem among_lit (b B K : Nat) (W : World) (l : List Int) (cs : Array Value) (T : TypeId) (g n m : Nat) (hg : W.heap.size = g) (hcs : cs.toList = l.map (Value.int .i64)) (hm : m = l.length) (hn : n = m) (h : Cur W b B K) (hK : K ≤ 4503599627370496) (h1 : 1 ≤ l.length) (h2 : l.length ≤ 1000) :
  Calls Tryz.prog 92 #[.pointer (some ⟨b, 0, none⟩), .slice (some ⟨g, 0, none⟩) n m] (W.alloc (.cells cs T)) fun e w' => ∃ r : Int, e = .returned (.int .i64 r) ∧ r ∈ l ∧ Cur w' b B (K + 2) ∧ Chg (fun q => q = b) W w' := by
 have hb := h.lt
 have hr := RI.lit (fun q => q = b) W l cs T g n m hg hcs hm (by omega) (by omega) h2
 rw [take_all l n (by omega)] at hr
 refine (among_any b B K _ l _ (h.keep ((Chg.refl No W).alloc _)) hK hr h1 h2).mono ?_
 rintro e w' ⟨r, rfl, hm, hc, hk⟩
 exact ⟨r, rfl, hm, hc, ((Chg.refl (fun q => q = b) W).alloc _).trans hk⟩
set_option maxHeartbeats 1000000 in
theorem items_any (b B K : Nat) (w : World) (h : Cur w b B K) (hK : K ≤ 4000000000000000) :
  Calls Tryz.prog 94 #[.pointer (some ⟨b, 0, none⟩)] w fun e w' => ∃ r : Int, e = .returned (.int .i64 r) ∧ -1 ≤ r ∧ r ≤ 9 ∧ Cur w' b B (K + 4) ∧ Chg (fun q => q = b) w w' := by
 have hb := h.lt
 have h0 := h.keep ((Chg.refl No w).alloc (.cells #[.int .i64 3, .int .i64 4, .int .i64 5, .int .i64 2, .int .i64 6, .int .i64 8, .int .i64 1, .int .i64 0, .int .i64 9, .int .i64 (-1)] 3))
 have q1 := Lib.hid (pick_any b B K 24 _ h0 (by omega) (by omega))
 have hr : ∀ n, n ≤ 10 → RI (fun q => q = b) (w.alloc (.cells #[.int .i64 3, .int .i64 4, .int .i64 5, .int .i64 2, .int .i64 6, .int .i64 8, .int .i64 1, .int .i64 0, .int .i64 9, .int .i64 (-1)] 3)) (.slice (some ⟨w.heap.size, 0, none⟩) n 10) (([3, 4, 5, 2, 6, 8, 1, 0, 9, -1] : List Int).take n) := fun n hn => RI.lit _ w [3, 4, 5, 2, 6, 8, 1, 0, 9, -1] _ _ _ n 10 rfl rfl rfl hn (by omega) (by decide)
 have HR := Lib.hid hr
 clear hr h0
 go_enter Tryz.func94, Tryz.ntmps94
 go_wp2_with (first
  | (go_at_call 52; refine (q1.out).mono ?_; rintro e w1 ⟨x, rfl, hx0, hx1, _, hc1, hk1⟩; have hx2 := hx1 (by omega); have ht := Int.tdiv_eq_ediv_of_nonneg (a := x) (b := 8) hx0; obtain ⟨y, hy⟩ : ∃ y, x / 8 = y := ⟨_, rfl⟩; have hy0 : 0 ≤ y := (by omega); have hy1 : y ≤ 2 := (by omega); rw [hy] at ht; have hw1 : IntKind.i64.wrap y = y := IntWalk.i64_in _ (by omega); obtain ⟨m, hm⟩ : ∃ m : Nat, 7 + y = (m : Int) := ⟨(7 + y).toNat, by omega⟩; have hw2 : IntKind.i64.wrap (7 + y) = (m : Int) := (IntWalk.i64_in _ (by omega)).trans hm; have hm10 : m ≤ 10 := (by omega); have hm1 : 1 ≤ m := (by omega); have hsl : ∀ w' : World, (Instr.slice 23 (.slice (some ⟨w.heap.size, 0, none⟩) 10 10) none (some (.int .i64 (m : Int))) none).run Tryz.prog w' = .ok (.slice (some ⟨w.heap.size, 0, none⟩) m 10) w' := (fun w' => by rw [run_slice_h w' 23 _ 10 10 und_el .i64 _ (by omega) (by omega), run_sz]; simp [Result.andThen, sliced, Addr.add]); clear hm hy)
  | (go_at_call 92; refine (among_any b B (K + 2) _ (([3, 4, 5, 2, 6, 8, 1, 0, 9, -1] : List Int).take m) _ hc1 (by omega) ((HR.out m hm10).step hk1 (fun _ h => h)) (by rw [List.length_take]; simp; omega) (by rw [List.length_take]; simp; omega)).mono ?_; rintro e w2 ⟨r, rfl, hr, hc2, hk2⟩))
 go_ret
 have hr' := List.mem_of_mem_take hr
 refine ⟨r, rfl, ?_, ?_, hc2, (((Chg.refl (fun q => q = b) w).alloc _).trans hk1).trans hk2⟩
 all_goals
  simp only [List.mem_cons, List.not_mem_nil, or_false] at hr'
  omega
theorem policy_any (b B K : Nat) (w : World) (h : Cur w b B K) (hK : K ≤ 4000000000000000) :
  Calls Tryz.prog 100 #[.pointer (some ⟨b, 0, none⟩)] w fun e w' => ∃ r : Int, e = .returned (.int .i64 r) ∧ -1 ≤ r ∧ r ≤ 8 ∧ Cur w' b B (K + 4) ∧ Chg (fun q => q = b) w w' := by
 have q1 := Lib.hid (one_any b B K 32 w h (by omega) (by omega))
 go_enter Tryz.func100, Tryz.ntmps100
 go_wp2_with (first
  | (go_at_call 67; refine (q1.out).mono ?_; rintro e w1 ⟨x, rfl, hc1, hk1⟩)
  | (go_at_call 92; refine (among_lit b B (K + 2) _ [0, 8, -1] _ _ _ _ _ rfl rfl rfl rfl hc1 (by omega) (by decide) (by decide)).mono ?_; rintro e w2 ⟨r, rfl, hr, hc2, hk2⟩)
  | (go_at_call 52; refine (pick_any b B (K + 2) 7 _ hc1 (by omega) (by omega)).mono ?_; rintro e w2 ⟨r, rfl, hr0, hr1, _, hc2, hk2⟩; have hr2 := hr1 (by omega); have hw : IntKind.i64.wrap (1 + r) = 1 + r := IntWalk.i64_in _ (by omega)))
 ·go_ret
  refine ⟨r, rfl, ?_, ?_, hc2, hk1.trans hk2⟩
  all_goals
   simp only [List.mem_cons, List.not_mem_nil, or_false] at hr
   omega
 ·go_ret
  exact ⟨_, rfl, by omega, by omega, hc2, hk1.trans hk2⟩
theorem size4_any (b B K : Nat) (w : World) (h : Cur w b B K) (hK : K ≤ 4000000000000000) :
  Calls Tryz.prog 101 #[.pointer (some ⟨b, 0, none⟩)] w fun e w' => ∃ r : Int, e = .returned (.int .i64 r) ∧ -1 ≤ r ∧ r ≤ 7 ∧ Cur w' b B (K + 4) ∧ Chg (fun q => q = b) w w' := by
 have q1 := Lib.hid (one_any b B K 24 w h (by omega) (by omega))
 have q2 := Lib.hid (fun W (hW : Cur W b B (K + 2)) => among_lit b B (K + 2) W [0, 7, -1] #[.int .i64 0, .int .i64 7, .int .i64 (-1)] 3 W.heap.size 3 3 rfl rfl rfl rfl hW (by omega) (by decide) (by decide))
 have q3 := Lib.hid (fun W (hW : Cur W b B (K + 2)) => among_lit b B (K + 2) W [2, 3, 1, 2, 3, 4, 5, 6] #[.int .i64 2, .int .i64 3, .int .i64 1, .int .i64 2, .int .i64 3, .int .i64 4, .int .i64 5, .int .i64 6] 3 W.heap.size 8 8 rfl rfl rfl rfl hW (by omega) (by decide) (by decide))
 go_enter Tryz.func101, Tryz.ntmps101
 go_wp2_with (first
  | (go_at_call 67; refine (q1.out).mono ?_; rintro e w1 ⟨x, rfl, hc1, hk1⟩)
  | (go_at_call 92; first
   | (with_reducible refine (q2.out _ hc1).mono ?_; rintro e w2 ⟨r, rfl, hr, hc2, hk2⟩)
   | (with_reducible refine (q3.out _ hc1).mono ?_; rintro e w2 ⟨r, rfl, hr, hc2, hk2⟩)))
 all_goals
  go_ret
  simp only [List.mem_cons, List.not_mem_nil, or_false] at hr
  exact ⟨r, rfl, by omega, by omega, hc2, hk1.trans hk2⟩
end Go.Proofs.YtdgcohoneijleaaGreatDoor
namespace Go.Proofs.YtdgcohoneijleaaGreatDoor
open Go.RowKit
theorem item_any (b B K : Nat) (n : Int) (w : World) (h : Cur w b B K) (hK : K ≤ 900000000) :
  Calls Tryz.prog 102 #[.pointer (some ⟨b, 0, none⟩), .int .i64 n] w fun e w' => ∃ r : Int, e = .returned (.int .i64 r) ∧ Cur w' b B (K + 4) ∧ Chg (fun q => q = b) w w' := by
 have q1 := Lib.hid (one_any b B K 24 w h (by omega) (by omega))
 obtain ⟨m, hm⟩ : ∃ m, max 1 (min n 8) = m := ⟨_, rfl⟩
 have hm1 : 1 ≤ m ∧ m ≤ 8 := by omega
 go_enter Tryz.func102, Tryz.ntmps102
 go_wp2_with (first
  | (go_at_call 67; refine (q1.out).mono ?_; rintro e w1 ⟨x, rfl, hc1, hk1⟩)
  | (go_at_call 137; refine (l1Least_any _ _ _).mono ?_; rintro e w' ⟨rfl, rfl⟩)
  | (go_at_call 103; refine (l1Most_any _ _ _).mono ?_; rintro e w' ⟨rfl, rfl⟩; rw [hm])
  | (go_at_call 92; refine (among_lit b B (K + 2) _ [-1, n, 8] _ _ _ _ _ rfl rfl rfl rfl hc1 (by omega) (by simp) (by simp)).mono ?_; rintro e w2 ⟨r, rfl, _, hc2, hk2⟩)
  | (go_at_call 52; refine (pick_any b B (K + 2) m _ hc1 (by omega) (by omega)).mono ?_; rintro e w2 ⟨r, rfl, _, _, _, hc2, hk2⟩))
 all_goals
  go_ret
  exact ⟨r, rfl, hc2, hk1.trans hk2⟩
end Go.Proofs.YtdgcohoneijleaaGreatDoor
