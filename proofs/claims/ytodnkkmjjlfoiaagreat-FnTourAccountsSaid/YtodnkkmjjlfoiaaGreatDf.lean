import Derived.Test.YtodnkkmjjlfoiaaGreatDd
/- the cruel asker (program) -/
namespace Go.Proofs.YtodnkkmjjlfoiaaGreat
open Go.RowKit

theorem TA.put3i {base : Nat} {w : World} {v : Value} {t : To} (h : TA base w v t) {b : Nat} (hb : b < base) : ∃ pa pn pc ra rn rc, v = .agg #[.int .i64 t.items, .slice pa pn pc, .slice ra rn rc] ∧
    TA base (((w.setCell ⟨b, 0, none⟩ (.int .i64 t.items)).setCell ⟨b, 1, none⟩ (.slice pa pn pc)).setCell ⟨b, 2, none⟩ (.slice ra rn rc)) v t := by
  obtain ⟨pv, pf, mf, rv, rfl, h2, h3, h4⟩ := h
  obtain ⟨pa, pc, rfl, _⟩ := h2.os.view
  obtain ⟨ra, rn, rc, rfl⟩ := h3.shape
  have ch : Chg (fun q => q = b) w (((w.setCell ⟨b, 0, none⟩ (.int .i64 t.items)).setCell ⟨b, 1, none⟩ (.slice pa t.ps.length pc)).setCell ⟨b, 2, none⟩ (.slice ra rn rc)) :=
    (((Chg.refl (fun q => q = b) w).setCell (p := ⟨b, 0, none⟩) (fun _ => rfl) _).setCell (p := ⟨b, 1, none⟩) (fun _ => rfl) _).setCell (p := ⟨b, 2, none⟩) (fun _ => rfl) _
  exact ⟨_, _, _, _, _, _, rfl, _, _, _, _, rfl, h2.step ch (fun q hq e => by have := (h2.inF q hq).1; omega), h3.step ch (fun q hq e => by have := (h3.lt q hq).1; omega), h4⟩
end Go.Proofs.YtodnkkmjjlfoiaaGreat
