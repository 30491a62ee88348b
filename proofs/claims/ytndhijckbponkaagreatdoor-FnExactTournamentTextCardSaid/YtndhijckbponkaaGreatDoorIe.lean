import Derived.Test.YtndhijckbponkaaGreatDoorIc
import Derived.Test.YtndhijckbponkaaGreatDoorBt
import Derived.Test.YtndhijckbponkaaGreatDoorTy
import Derived.Test.YtndhijckbponkaaGreatDoorTe
import Derived.Test.YtndhijckbponkaaGreatDoorTd
/- Plain Lean: the texts of requests, of policies, of a Tournament; what is read of a text. -/
namespace Go.Proofs.YtndhijckbponkaaGreatDoor
open Go.RowKit

def noneT : List UInt8 := [110, 111, 110, 101]
/-- numbers with single spaces between them; the text of requests -/
def spT (l : List Int) : List UInt8 := Lib.join (l.map Lib.itoa) [32]
def reqT : List Int → List UInt8
  | [] => noneT
  | x :: l => spT (x :: l)
theorem reqT_ne {l : List Int} (h : l ≠ []) : reqT l = spT l := by
  cases l with
  | nil => exact absurd rfl h
  | cons x l => rfl
theorem spT_snoc (l : List Int) (x : Int) (h : l ≠ []) : spT (l ++ [x]) = spT l ++ [32] ++ Lib.itoa x := by
  unfold spT
  rw [List.map_append, List.map_cons, List.map_nil, join_snoc _ _ _ (by simpa using h)]
/- THE NUMBERS OF A TEXT OF REQUESTS, if it is one -/
/-- policies -/
def polL : List (List UInt8) := [[108, 114, 117], [102, 105, 102, 111], [108, 105, 102, 111], [102, 108, 117, 115, 104], [108, 102, 117], [99, 108, 111, 99, 107], [109, 114, 117]]
def polT (p : Int) : List UInt8 := polL.getD (p - 1).toNat []
theorem seven {p : Int} (h : 1 ≤ p ∧ p ≤ 7) : p = 1 ∨ p = 2 ∨ p = 3 ∨ p = 4 ∨ p = 5 ∨ p = 6 ∨ p = 7 := by omega
/-- THE TEXT OF A TOURNAMENT -/
def plT (x : Pl) : List UInt8 := polT x.ca.pol ++ 47 :: (Lib.itoa x.ca.size ++ 32 :: Lib.itoa x.frm)
def touW (t : To) : List (List UInt8) := Lib.itoa t.items :: reqT t.reqs :: t.ps.map plT
def touT (t : To) : List UInt8 := Lib.join (touW t) [59, 32]
theorem tour_ps {t : To} (ht : tourB t = true) {x : Pl} (hx : x ∈ t.ps) : playB x t.reqs = true := by
  unfold tourB at ht
  simp only [Bool.and_eq_true, List.all_eq_true] at ht
  exact ht.2.2 x hx
theorem play_parts {x : Pl} {l : List Int} (h : playB x l = true) : (0 ≤ x.frm ∧ x.frm ≤ l.length) ∧ (1 ≤ x.ca.pol ∧ x.ca.pol ≤ 7) ∧ 1 ≤ x.ca.size ∧ x.ca.size ≤ 6 := by
  unfold playB at h
  simp only [Bool.and_eq_true, inB_iff] at h
  exact ⟨h.1.1, h.1.2.1, h.1.2.2⟩
theorem tour_req {t : To} (ht : tourB t = true) : (1 ≤ t.items ∧ t.items ≤ 8) ∧ t.reqs.length ≤ 60 ∧ (∀ x ∈ t.reqs, 0 ≤ x ∧ x ≤ 7) ∧ reqB t.items t.reqs = true ∧ t.ps.length ≤ 4 := by
  unfold tourB at ht
  simp only [Bool.and_eq_true, decide_eq_true_eq] at ht
  have h := ht.1
  have h' := h
  unfold reqB at h
  simp only [Bool.and_eq_true, decide_eq_true_eq, inB_iff] at h
  refine ⟨h.1.1, h.1.2, fun x hx => ?_, h', ht.2.1⟩
  have := h.2
  unfold belowB at this
  rw [List.all_eq_true] at this
  have := inB_iff.1 (this x hx)
  omega
/- THE TOURNAMENT OF A TEXT, if it is one -/
end Go.Proofs.YtndhijckbponkaaGreatDoor
