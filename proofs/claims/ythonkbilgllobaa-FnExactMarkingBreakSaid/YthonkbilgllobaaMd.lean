import Derived.Test.YthonkbilgllobaaMc
import Derived.Test.YthonkbilgllobaaGp
/- the law of MarkingBreak returns true -/
namespace Go.Proofs.Ythonkbilgllobaa
open Go.RowKit

set_option maxRecDepth 100000 in
set_option maxHeartbeats 4000000 in
theorem lawMarkingBreak_any (n p k : Int) (v : Value) (l : List Int) (w : World) (hv : RI No w v l) (hl : l.length ≤ 1048576) :
    Calls Try.prog 7 #[.int .i64 n, .int .i64 p, .int .i64 k, v] w fun e w' => e = .returned (.bool true) ∧ Chg No w w' := by
  obtain ⟨a, c, rfl, _⟩ := id hv
  have hle : ¬ (1048576 : Int) < (l.length : Int) := by omega
  obtain ⟨r, hr⟩ : ∃ r, markV n p k l = r := ⟨_, rfl⟩
  have HR := Lib.hid hr
  clear hr
  go_enter Try.func7, Try.ntmps7
  go_wp2_with fail
  refine (toIntS_any No _ l w hv).mono ?_
  rintro e w1 ⟨t1, rfl, o1, k1⟩
  go_wp2_with fail
  refine (specMarkingBreak_any n p k t1 l w1 o1.readNo).mono ?_
  rintro e w2 ⟨v0, vb, rfl, rfl, rfl, k2⟩
  rw [HR.out]
  go_wp2_with fail
  refine (toIntS_any No _ l w2 ((hv.keep k1).keep k2)).mono ?_
  rintro e w3 ⟨x3, rfl, ox, k3⟩
  go_wp2_with fail
  refine (implMarkingBreak_any n p k x3 l w3 ox.readNo).mono ?_
  rintro e w4 ⟨g0, gb, rfl, rfl, rfl, k4⟩
  rw [HR.out]
  have ox := ox.keep k4
  have ch := (((k1.keep k2).keep k3).keep k4)
  go_wp2_with fail
  refine (toIntS_any No _ l w4 (hv.keep ch)).mono ?_
  rintro e w5 ⟨t2, rfl, o2, k5⟩
  go_wp2_with fail
  refine (eqIntS_same No No x3 t2 l w5 (ox.keep k5).readNo o2.readNo).mono ?_
  rintro e w6 ⟨_, rfl, rfl, k6⟩
  go_wp2_with fail
  go_ret
  exact ⟨rfl, (ch.keep k5).keep k6⟩
end Go.Proofs.Ythonkbilgllobaa
