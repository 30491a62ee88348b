import Derived.Test.YtfdmghohmohmpaaGe
import Derived.Test.YtfdmghohmohmpaaOw
import Derived.Test.YtfdmghohmohmpaaRd
import Derived.Test.YtfdmghohmohmpaaO
/- VictimsOf, both sides -/
namespace Go.Proofs.Ytfdmghohmohmpaa
open Go.RowKit

theorem putL_old {l : List Int} {n : Int} (h : Up l) (hn : n ∈ l) : putL l n = l := by
  induction l with
  | nil => cases hn
  | cons a l ih =>
    unfold Up at h
    rw [List.pairwise_cons] at h
    unfold putL
    rcases List.mem_cons.1 hn with rfl | hn
    · simp
    · have := h.1 n hn
      rw [if_pos this, ih h.2 hn]
theorem foldl_put_nod : ∀ (l acc : List Int), Up acc → (l.foldl putL acc).length = acc.length + l.length → l.Nodup ∧ ∀ x ∈ l, x ∉ acc
  | [], acc, _, _ => ⟨List.nodup_nil, fun x h => by cases h⟩
  | a :: l, acc, hu, h => by
    rw [List.foldl_cons, List.length_cons] at h
    have h1 : ∀ (l acc : List Int), (l.foldl putL acc).length ≤ acc.length + l.length := by
      intro l
      induction l with
      | nil => simp
      | cons a l ih => intro acc; have := ih (putL acc a); have := putL_len acc a; simp only [List.foldl_cons, List.length_cons]; omega
    have h2 := h1 l (putL acc a)
    have h3 := putL_len acc a
    obtain ⟨g1, g2⟩ := foldl_put_nod l (putL acc a) (putL_up a hu) (by omega)
    have ha : a ∉ acc := fun hm => by have := congrArg List.length (putL_old hu hm); omega
    refine ⟨List.nodup_cons.2 ⟨fun hm => g2 a hm (putL_mem.2 (.inr rfl)), g1⟩, fun x hx => ?_⟩
    rcases List.mem_cons.1 hx with rfl | hx
    · exact ha
    · exact fun hm => g2 x hx (putL_mem.2 (.inl hm))
theorem goodC_nod {n : Int} {c : Ca} (h : goodC n c = true) : c.pages.Nodup := by
  simp only [goodC, Bool.and_eq_true, decide_eq_true_eq] at h
  exact (foldl_put_nod c.pages [] List.Pairwise.nil (by have := h.1.1.2; unfold diffL at this; simpa using this)).1
theorem victL_up (c : Ca) (x : Int) : Up (victL c x) := by
  unfold victL
  split
  · exact List.Pairwise.nil
  · split
    · exact diffL_up _
    · simp [Up]
theorem gone_vict {n : Int} {c : Ca} (h : goodC n c = true) (x : Int) : diffL (stay (hasB (stepC c x).pages) c.pages) = victL c x :=
  up_ext (diffL_up _) (victL_up c x) (gone_mem (goodC_ok h) (goodC_nod h) x)
def okB (n : Int) (c : Ca) (x : Int) : Bool := goodC n c && inB x 0 (n - 1)
def victV (n : Int) (c : Ca) (x : Int) : List Int := if okB n c x then victL c x else []

/-- a Cache by value, laid into a block -/
theorem RCO.mc {base : Nat} {w W : World} {p k hd : Int} {pv mv : Value} {ps ms : List Int} {b : Nat} (h : RCO base w (.agg #[.int .i64 p, .int .i64 k, pv, mv, .int .i64 hd]) ⟨p, k, ps, ms, hd⟩) (hc : Chg No w W)
    (hb : Box W b (.int .i64 p) (.int .i64 k) pv mv (.int .i64 hd)) (hl : w.heap.size ≤ b) : MC base W b ⟨p, k, ps, ms, hd⟩ pv mv := by
  obtain ⟨pv', mv', e, h1, h2, h3⟩ := h
  simp only [Value.agg.injEq, Array.mk.injEq, List.cons.injEq, and_true, true_and] at e
  obtain ⟨rfl, rfl⟩ := e
  exact ⟨hb, h1.keep hc, h2.keep hc, h3, fun hq => by have := (h1.lt _ hq).2; omega, fun hq => by have := (h2.lt _ hq).2; omega⟩
end Go.Proofs.Ytfdmghohmohmpaa
