import Derived.Test.YtndhijckbponkaaPkX7
import Derived.Test.YtndhijckbponkaaTy
import Derived.Test.YtndhijckbponkaaPkX3
/- BestReply, both sides -/
namespace Go.Proofs.Ytndhijckbponkaa
open Go.RowKit

theorem drawB_facts {p : Pr} {s : Int} {qs : List (List Int)} {ws : List Int} (h : drawB p s qs ws = true) : PrP p ∧ ChP p.sv.length 12 6 qs ws ∧ 0 ≤ s ∧ s < (p.mv.length : Int) := by
  unfold drawB chaB at h
  rw [Bool.and_eq_true, Bool.and_eq_true] at h
  have h3 := inB_iff.1 h.2
  exact ⟨bP_iff.1 h.1.1, bP_iff.1 h.1.2, h3.1, by omega⟩
end Go.Proofs.Ytndhijckbponkaa

/- FnExactBestReply: the law -/
namespace Go.Proofs.Ytndhijckbponkaa
open Go.RowKit

theorem wpAnyK_tailL {P : Program} {Q : Exit → Act → World → Prop} {md : Region.Mode} {S : World → Prop} {k : Nat} (n : Nat) {f : Nat} {l : List Oper} {listed : Array Bool} {a : Act} {w : World} (hf : (l.drop n).length = f) (hB : (Region.seqB md l.toArray f n listed && listed.getD k true) = true)
    (h : wpList P l.toArray Q (l.drop n) a w) : wpAnyK P md l.toArray Q S k f listed a w := by
  subst hf
  simp only [Bool.and_eq_true] at hB
  exact wpAnyK_of_any _ _ _ _ hB.2 (wpAny_of_seq (P := P) (md := md) (Q' := Q) (l.drop n) n listed a w (fun j => by simp [List.getElem?_drop]) hB.1 h)
theorem ret2_eq {P : Program} {f : FuncId} {args : Array Value} {w : World} {x y : Value} {C : World → Prop} (h : Calls P f args w (Ret2 fun r0 r1 w' => r0 = x ∧ r1 = y ∧ C w')) : Calls P f args w (Ret fun v w' => v = .tuple #[x, y] ∧ C w') :=
  h.mono fun _ _ ⟨a, b, he, h1, h2, h3⟩ => ⟨_, he, by rw [h1, h2], h3⟩
end Go.Proofs.Ytndhijckbponkaa
