import Derived.Test.YtfdmghohmohmpaaCq
import Derived.Test.YtfdmghohmohmpaaK
import Derived.Test.YtfdmghohmohmpaaFi
/- goneBy, InclusionBreak -/
namespace Go.Proofs.Ytfdmghohmohmpaa
open Go.RowKit

set_option maxHeartbeats 400000 in
theorem Contains_any (A : Nat → Prop) (v : Value) (l : List Int) (n : Int) (w : World) (h : RI A w v l) :
    Calls Try.prog 29 #[v, .int .i64 n] w fun e w' => e = .returned (.bool (hasB l n)) ∧ w = w' := by
  have H : Hid (decide (0 ≤ atI l n) = hasB l n) := Lib.hid (by
    rcases atI_spec l n with ⟨h1, k, _, h2⟩ | ⟨h1, h2⟩
    · rw [h1, h2]; simp
    · rw [h1, h2]; rfl)
  go_enter Try.func29, Try.ntmps29
  go_wp2_with fail
  refine (Index_any A v l n w h).mono ?_
  rintro e w' ⟨rfl, rfl⟩
  go_wp2_with fail
  go_ret
  exact ⟨ret_bool H.out, rfl⟩

/-- what stays of a list -/
def stay (p : Int → Bool) (l : List Int) : List Int := l.filter fun x => !p x
theorem stay_len (p : Int → Bool) (l : List Int) : (stay p l).length ≤ l.length := List.length_filter_le _ _
theorem stay_snoc (p : Int → Bool) (l : List Int) (k : Nat) (h : k < l.length) : stay p (l.take (k + 1)) = if p l[k] then stay p (l.take k) else stay p (l.take k) ++ [l[k]] := by
  rw [List.take_succ_eq_append_getElem h, stay, List.filter_append]
  cases hp : p l[k] <;> simp [stay, hp]
theorem stay_none (p : Int → Bool) (l : List Int) (h : l.any p = false) : stay p l = l := by
  unfold stay
  rw [List.filter_eq_self]
  intro x hx
  have := List.any_eq_false.1 h x hx
  simpa using this
/-- the cells behind the first i are written -/
theorem OI.cleared {base : Nat} (g cap : Nat) (l : List Int) : ∀ (vs : List Value) (w : World) (o : Nat), OI base w (.slice (some ⟨g, 0, none⟩) l.length cap) l → l.length ≤ o →
    OI base (w.setCells g o vs) (.slice (some ⟨g, 0, none⟩) l.length cap) l ∧ Chg (fun k => k = g) w (w.setCells g o vs)
  | [], w, o, h, _ => ⟨h, Chg.refl _ w⟩
  | u :: vs, w, o, h, ho => by
    obtain ⟨h1, h2⟩ := h.spare o ho u
    obtain ⟨h3, h4⟩ := OI.cleared g cap l vs _ (o + 1) h1 (by omega)
    exact ⟨h3, h2.trans h4⟩
theorem run_clearN (w : World) {base g n cap : Nat} {l : List Int} (h : OI base w (.slice (some ⟨g, 0, none⟩) n cap) l) (i : Nat) (hi : i ≤ l.length) :
    ∃ x w', (∀ w0 : World, (Instr.slice 24 (.slice (some ⟨g, 0, none⟩) n cap) (some (.int .i64 (i : Int))) none none).run Try.prog w0 = .ok x w0) ∧
      (∀ ty, (Builtin.clear_ #[24] ty #[x]).run Try.prog w = .ok (.tuple #[]) w') ∧ OI base w' (.slice (some ⟨g, 0, none⟩) i cap) (l.take i) ∧ Chg (fun k => k = g) w w' := by
  obtain ⟨hc, hf, _, _, hn, hnc, hm⟩ := h.at
  subst hn
  have hz : ∀ w : World, (zeroValue 3).run Try.prog w = .ok (.int .i64 0) w := fun w => by kernel_rfl
  have hp := h.pre i hi
  have hpl : (l.take i).length = i := by rw [List.length_take]; omega
  by_cases hil : i < l.length
  · refine ⟨.slice (some ⟨g, i, none⟩) (l.length - i) (cap - i), _, fun w0 => run_from w0 g l.length cap i _ rfl hi (by omega), fun ty => Lib.run_clear_slice (P := Try.prog) w 24 3 ty (.int .i64 0) Try.underlying24 hz rfl rfl g i (l.length - i) _ (by omega) (fun j hj => by rw [hc (i + j) (by omega)]; rfl) (fun j hj => hf _), ?_⟩
    have := OI.cleared (base := base) g cap (l.take i) (List.replicate (l.length - i) (Value.int .i64 0)) w i (by rw [hpl]; exact hp) (by omega)
    rw [hpl] at this
    exact this
  · have hil : i = l.length := by omega
    subst hil
    have hrd : RI No w (.slice (some ⟨g, 0, none⟩) l.length cap) l := h.readNo
    obtain ⟨a, c, hsl⟩ : ∃ a c, sliced (some ⟨g, 0, none⟩) l.length l.length cap 1 = .slice a 0 c := ⟨_, _, by unfold sliced; rw [Nat.sub_self]⟩
    have hx : ∀ w0 : World, (Instr.slice 24 (.slice (some ⟨g, 0, none⟩) l.length cap) (some (.int .i64 (l.length : Int))) none none).run Try.prog w0 = .ok (.slice a 0 c) w0 := fun w0 => by
      rw [run_slice_l w0 24 _ l.length cap und_el .i64 l.length (by omega) (by omega), run_sz]
      simp only [Result.andThen, Int.toNat_natCast, hsl]
    refine ⟨.slice a 0 c, w, hx, fun ty => ?_, by simpa using h, Chg.refl _ w⟩
    cases a <;> kernel_rfl
theorem wclear_run {ops : Array Oper} {rest : List Oper} {o : Oper} {a : Act} {Q : Exit → Act → World → Prop} {w w' : World} {v : Value} (hgd : o.guard = none) (s : Operand) (t : TypeId)
    (ho : o.op = .call { callee := .builtin .clear, args := #[s], argTypes := #[t] }) (hr : (Builtin.clear_ #[t] o.type #[a.eval s]).run Try.prog w = .ok v w')
    (h : wpList Try.prog ops Q rest (a.put o.dst v) w') : wpList Try.prog ops Q (o :: rest) a w := by
  refine wpList_plain hgd fun _ hK => ?_
  unfold Oper.wp execOp
  simp only [ho, resolve, invoke, builtin, Sem.run_bind, Sem.run_pure, Result.andThen_ok, List.map_toArray, List.map_cons, List.map_nil, hr]
  exact hK _ _ h

/-- all numbers of one list are in another one -/
def partB (a b : List Int) : Bool := a.all (hasB b)
theorem partB_snoc (a b : List Int) (k : Nat) (h : k < a.length) : partB (a.take (k + 1)) b = (partB (a.take k) b && hasB b a[k]) := by
  rw [List.take_succ_eq_append_getElem h, partB, List.all_append]; simp [partB]
theorem partB_stop (a b : List Int) (k : Nat) (h : k < a.length) (hk : hasB b a[k] = false) : partB a b = false := by
  unfold partB
  rw [List.all_eq_false]
  exact ⟨a[k], List.getElem_mem h, by simp [hk]⟩
theorem gone_part (a b : List Int) : decide (0 < ((diffL (stay (hasB b) a)).length : Int)) = !partB a b := by
  have : (diffL (stay (hasB b) a)).length = 0 ↔ partB a b = true := by
    rw [List.length_eq_zero_iff, partB, List.all_eq_true]
    constructor
    · intro h x hx
      cases hb : hasB b x
      · have : x ∈ diffL (stay (hasB b) a) := diffL_mem.2 (List.mem_filter.2 ⟨hx, by simp [hb]⟩)
        rw [h] at this; simp at this
      · rfl
    · intro h
      have hs : stay (hasB b) a = [] := by
        unfold stay
        rw [List.filter_eq_nil_iff]
        intro x hx
        simp [h x hx]
      rw [hs]; rfl
  cases hp : partB a b
  · have : ¬ (diffL (stay (hasB b) a)).length = 0 := fun e => by rw [this.1 e] at hp; cases hp
    simp; omega
  · have := this.2 hp
    simp [this]
end Go.Proofs.Ytfdmghohmohmpaa
