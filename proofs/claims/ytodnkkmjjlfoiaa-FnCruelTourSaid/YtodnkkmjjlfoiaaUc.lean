import Derived.Test.YtodnkkmjjlfoiaaPk1
import Derived.Test.YtodnkkmjjlfoiaaPk4
/- the draws' cursor and choices, codes (for seats without logs: as XWa..XWf) -/
namespace Go.Proofs.Ytodnkkmjjlfoiaa
open Go.RowKit

theorem RF.lit {A : Nat → Prop} (W : World) (cs : Array Value) (n : Nat) (T : TypeId) (hn : n = cs.size) (hA : ¬ A W.heap.size) (hb : cs.size ≤ 1000) : RF A (W.alloc (.cells cs T)) (.slice (some ⟨W.heap.size, 0, none⟩) n n) 1 n cs.toList := by
  subst hn
  refine ⟨_, _, rfl, Nat.le_refl _, by omega, by simp, by simp, fun _ => ⟨W.heap.size, 0, rfl, hA, by rw [World.size_alloc]; omega, fun i hi => ?_⟩⟩
  rw [World.cell?_alloc_new]
  have hi' : i < cs.size := by simpa using hi
  simp [List.getD_eq_getElem?_getD, hi']
theorem elBytes : El 22 5 (.int .u8 0) 1 1 := El.mk' Try.underlying22 (by kernel_rfl) rfl (by decide)
theorem ocallE {o : Oper} {a : Act} {K : Act → World → Prop} {Q : Exit → Act → World → Prop} {w : World} {f : FuncId} {args : Array Value} {φ : Value → World → Prop}
    (ho : (execOp a.eval o).run Try.prog w = .ok (.enter f args) w) (h : Calls Try.prog f args w fun e w' => ∃ v, e = .returned v ∧ φ v w') (hk : ∀ v w', φ v w' → K (a.put o.dst v) w') : Oper.wp Try.prog o a w K Q := by
  unfold Oper.wp
  rw [ho]
  refine h.mono (fun e w' hr => ?_)
  obtain ⟨v, rfl, hp⟩ := hr
  exact hk v w' hp
theorem wpOpKk {P : Program} {ops : Array Oper} {Q : Exit → Act → World → Prop} {md : Region.Mode} {S : World → Prop} {k i f : Nat} {o : Oper} {listed : Array Bool} {a : Act} {w : World} (ho : ops[i]? = some o) (hg : o.guard = none) (hk : (listed.setIfInBounds i true).getD k true = true)
    (h : ∀ K : Act → World → Prop, Hid (∀ a' w', wpAnyK P md ops Q S k f (listed.setIfInBounds i true) a' w' → K a' w') → Oper.wp P o a w K Q) :
    wpOp P ops Q i (fun a' w' => ((listed.setIfInBounds i true).getD k true = false → S w') ∧ wpAnyK P md ops Q S k f (listed.setIfInBounds i true) a' w') a w := by
  unfold wpOp
  rw [ho]
  show if Region.wanted o (yielded ops a.tmps) = true then _ else _
  rw [if_pos (by simp [Region.wanted, hg])]
  exact .inl (h _ (Lib.hid (fun a' w' h1 => ⟨fun h0 => by (rw [hk] at h0; cases h0), h1⟩)))
theorem RF.from {A : Nat → Prop} {w : World} {a : Option Addr} {n cap sz : Nat} {cs : List Value} (T : TypeId) (hu : Try.prog.underlying T = some (.slice (Try.prog.elem T))) (hz : ∀ w, (sizeOf (Try.prog.elem T)).run Try.prog w = .ok sz w) (h : RF A w (.slice a n cap) sz n cs) (i : Nat) (hi : i ≤ n) :
    ∃ a' c', (∀ w' : World, (Instr.slice T (.slice a n cap) (some (.int .i64 (i : Int))) none none).run Try.prog w' = .ok (.slice a' (n - i) c') w') ∧ RF A w (.slice a' (n - i) c') sz (n - i) (cs.drop (i * sz)) := by
  obtain ⟨a0, cap0, he, h1, h2, h3, h0, h4⟩ := h
  simp only [Value.slice.injEq, true_and] at he
  obtain ⟨rfl, rfl⟩ := he
  refine ⟨if cap = i then a else a.map (·.add (i * sz)), cap - i, fun w' => ?_, ?_⟩
  · rw [run_slice_l w' T a n cap hu .i64 i (by omega) (by omega), hz]
    simp [Result.andThen, sliced]
  · refine ⟨_, _, rfl, by omega, by omega, by rw [List.length_drop, h3, ← Nat.sub_mul], fun hn => ?_, fun hp => ?_⟩
    · by_cases hc : cap = i
      · omega
      · rw [if_neg hc] at hn
        have := h0 (by simpa using hn)
        omega
    · obtain ⟨b, off, rfl, hA, hb, hcell⟩ := h4 (by omega)
      refine ⟨b, off + i * sz, ?_, hA, hb, fun k hk => ?_⟩
      · have : ¬ cap = i := by omega
        simp [this, Addr.add]
      · rw [List.length_drop] at hk
        rw [Nat.add_assoc, hcell (i * sz + k) (by omega), List.getD_eq_getElem?_getD, List.getD_eq_getElem?_getD, List.getElem?_drop]
theorem und_bytes : Try.prog.underlying 22 = some (.slice (Try.prog.elem 22)) := by kernel_rfl
theorem siz_bytes (w : World) : (sizeOf (Try.prog.elem 22)).run Try.prog w = .ok 1 w := by kernel_rfl
/-- a code that is read -/
def Code (w : World) (v : Value) (n : Nat) : Prop := ∃ l : List Int, l.length = n ∧ RF No w v 1 n (l.map (Value.int .u8)) ∧ ∀ x ∈ l, 0 ≤ x ∧ x ≤ 255
theorem Code.keep {w w' : World} {v : Value} {n : Nat} (h : Code w v n) (hc : Chg No w w') : Code w' v n := by
  obtain ⟨l, h1, h2, h3⟩ := h
  exact ⟨l, h1, h2.keep hc, h3⟩
theorem Code.shape {w : World} {v : Value} {n : Nat} (h : Code w v n) : ∃ a c, v = .slice a n c := by
  obtain ⟨l, h1, ⟨a, c, rfl, _⟩, h3⟩ := h
  exact ⟨a, c, rfl⟩
set_option maxRecDepth 100000 in
theorem vBig_any (v : Value) (n : Nat) (w : World) (h : Code w v n) :
    Calls Try.prog 4 #[v] w fun e w' => e = .returned (.bool (decide ((65536 : Int) < (n : Int)))) ∧ w' = w := by
  obtain ⟨a, c, rfl⟩ := h.shape
  go_enter Try.func4, Try.ntmps4
  go_wp2_with fail
  go_ret
  exact ⟨rfl, rfl⟩
end Go.Proofs.Ytodnkkmjjlfoiaa
