import Derived.Test.YtndhijckbponkaaGreatPk
import Derived.Test.YtndhijckbponkaaGreatUc
/- Problems and Chances of the laws: their size, copies, comparisons -/
namespace Go.Proofs.YtndhijckbponkaaGreat
open Go.RowKit

theorem chg1 (w : World) (b i : Nat) (x : Value) : Chg (fun q => q = b) w (w.setCell ⟨b, i, none⟩ x) := (Chg.refl (fun q => q = b) w).setCell (p := ⟨b, i, none⟩) (fun _ => rfl) x
end Go.Proofs.YtndhijckbponkaaGreat

/- numbers of items, policies, sizes, items drawn -/
namespace Go.Proofs.YtndhijckbponkaaGreat
open Go.RowKit

theorem RI.lit (A : Nat → Prop) (W : World) (l : List Int) (cs : Array Value) (T : TypeId) (g n m : Nat) (hg : W.heap.size = g) (hcs : cs.toList = l.map (Value.int .i64)) (hm : m = l.length) (hn : n ≤ m) (hA : ¬ A g) (hl : l.length ≤ 1000) :
    RI A (W.alloc (.cells cs T)) (.slice (some ⟨g, 0, none⟩) n m) (l.take n) := by
  subst hg hm
  have hlt : (l.take n).length = n := by rw [List.length_take]; omega
  have hsz : cs.size = l.length := by rw [← Array.length_toList, hcs, List.length_map]
  refine ⟨some ⟨W.heap.size, 0, none⟩, l.length, by rw [hlt], by omega, by omega, by omega, (fun h => by cases h), fun _ => ⟨W.heap.size, 0, rfl, hA, by rw [World.size_alloc]; omega, fun i hi => ?_⟩⟩
  rw [hlt] at hi
  rw [Nat.zero_add, World.cell?_alloc_new]
  have h1 : cs[i]? = some (.int .i64 (l.getD i 0)) := by
    rw [← Array.getElem?_toList, hcs, List.getElem?_map, List.getD_eq_getElem?_getD, List.getElem?_eq_getElem (by omega : i < l.length)]
    rfl
  rw [h1]
  congr 2
  rw [List.getD_eq_getElem?_getD, List.getD_eq_getElem?_getD, List.getElem?_take_of_lt hi]
theorem take_all (l : List Int) (n : Nat) (h : n = l.length) : l.take n = l := by subst h; exact List.take_length
/-- one of some numbers that are written out -/
theorem among_lit (b B K : Nat) (W : World) (l : List Int) (cs : Array Value) (T : TypeId) (g n m : Nat) (hg : W.heap.size = g) (hcs : cs.toList = l.map (Value.int .i64)) (hm : m = l.length) (hn : n = m) (h : Cur W b B K) (hK : K ≤ 4503599627370496) (h1 : 1 ≤ l.length) (h2 : l.length ≤ 1000) :
    Calls Tryz.prog 76 #[.pointer (some ⟨b, 0, none⟩), .slice (some ⟨g, 0, none⟩) n m] (W.alloc (.cells cs T)) fun e w' => ∃ r : Int, e = .returned (.int .i64 r) ∧ r ∈ l ∧ Cur w' b B (K + 2) ∧ Chg (fun q => q = b) W w' := by
  have hb := h.lt
  have hr := RI.lit (fun q => q = b) W l cs T g n m hg hcs hm (by omega) (by omega) h2
  rw [take_all l n (by omega)] at hr
  refine (among_any b B K _ l _ (h.keep ((Chg.refl No W).alloc _)) hK hr h1 h2).mono ?_
  rintro e w' ⟨r, rfl, hm, hc, hk⟩
  exact ⟨r, rfl, hm, hc, ((Chg.refl (fun q => q = b) W).alloc _).trans hk⟩
end Go.Proofs.YtndhijckbponkaaGreat
