import Derived.Test.YtfdmghohmohmpaaUi
import Derived.Test.YtfdmghohmohmpaaVo
import Derived.Test.YtfdmghohmohmpaaSt
/- caches drawn for steps and runs; IsHit -/
namespace Go.Proofs.Ytfdmghohmohmpaa
open Go.RowKit

theorem RCO.shape {base : Nat} {w : World} {v : Value} {c : Ca} (h : RCO base w v c) : ∃ pa pn pc ma mn mc, v = .agg #[.int .i64 c.pol, .int .i64 c.size, .slice pa pn pc, .slice ma mn mc, .int .i64 c.hand] := by
  obtain ⟨pv, mv, rfl, hp, hm, _⟩ := h
  obtain ⟨pa, pn, pc, rfl⟩ := hp.shape
  obtain ⟨ma, mn, mc, rfl⟩ := hm.shape
  exact ⟨pa, pn, pc, ma, mn, mc, rfl⟩
end Go.Proofs.Ytfdmghohmohmpaa
