import Derived.Test.YtdgcohoneijleaaGreatPkX3
import Derived.Test.YtdgcohoneijleaaGreatPkX2
import Derived.Test.YtdgcohoneijleaaGreatK
import Derived.Test.YtdgcohoneijleaaGreatBase
/- goneBy, InclusionBreak -/
namespace Go.Proofs.YtdgcohoneijleaaGreat
open Go.RowKit

set_option maxHeartbeats 400000 in
theorem Contains_any (A : Nat → Prop) (v : Value) (l : List Int) (n : Int) (w : World) (h : RI A w v l) :
    Calls Tryz.prog 53 #[v, .int .i64 n] w fun e w' => e = .returned (.bool (hasB l n)) ∧ w = w' := by
  have H : Hid (decide (0 ≤ atI l n) = hasB l n) := Lib.hid (by
    rcases atI_spec l n with ⟨h1, k, _, h2⟩ | ⟨h1, h2⟩
    · rw [h1, h2]; simp
    · rw [h1, h2]; rfl)
  go_enter Tryz.func53, Tryz.ntmps53
  go_wp2_with fail
  refine (Index_any A v l n w h).mono ?_
  rintro e w' ⟨rfl, rfl⟩
  go_wp2_with fail
  go_ret
  exact ⟨ret_bool H.out, rfl⟩

/-- what stays of a list -/
def stay (p : Int → Bool) (l : List Int) : List Int := l.filter fun x => !p x
theorem stay_len (p : Int → Bool) (l : List Int) : (stay p l).length ≤ l.length := List.length_filter_le _ _
theorem stay_snoc (p : Int → Bool) (l : List Int) (k : Nat) (h : k < l.length) : stay p (l.take (k + 1)) = if p l[k] then stay p (l.take k) else stay p (l.take k) ++ [l[k]] := by
  rw [List.take_succ_eq_append_getElem h, stay, List.filter_append]
  cases hp : p l[k] <;> simp [stay, hp]
theorem stay_none (p : Int → Bool) (l : List Int) (h : l.any p = false) : stay p l = l := by
  unfold stay
  rw [List.filter_eq_self]
  intro x hx
  have := List.any_eq_false.1 h x hx
  simpa using this
/-- the cells behind the first i are written -/
theorem OI.cleared {base : Nat} (g cap : Nat) (l : List Int) : ∀ (vs : List Value) (w : World) (o : Nat), OI base w (.slice (some ⟨g, 0, none⟩) l.length cap) l → l.length ≤ o →
    OI base (w.setCells g o vs) (.slice (some ⟨g, 0, none⟩) l.length cap) l ∧ Chg (fun k => k = g) w (w.setCells g o vs)
  | [], w, o, h, _ => ⟨h, Chg.refl _ w⟩
  | u :: vs, w, o, h, ho => by
    obtain ⟨h1, h2⟩ := h.spare o ho u
    obtain ⟨h3, h4⟩ := OI.cleared g cap l vs _ (o + 1) h1 (by omega)
    exact ⟨h3, h2.trans h4⟩
theorem run_clearN (w : World) {base g n cap : Nat} {l : List Int} (h : OI base w (.slice (some ⟨g, 0, none⟩) n cap) l) (i : Nat) (hi : i ≤ l.length) :
    ∃ x w', (∀ w0 : World, (Instr.slice 25 (.slice (some ⟨g, 0, none⟩) n cap) (some (.int .i64 (i : Int))) none none).run Tryz.prog w0 = .ok x w0) ∧
      (∀ ty, (Builtin.clear_ #[25] ty #[x]).run Tryz.prog w = .ok (.tuple #[]) w') ∧ OI base w' (.slice (some ⟨g, 0, none⟩) i cap) (l.take i) ∧ Chg (fun k => k = g) w w' := by
  obtain ⟨hc, hf, _, _, hn, hnc, hm⟩ := h.at
  subst hn
  have hz : ∀ w : World, (zeroValue 3).run Tryz.prog w = .ok (.int .i64 0) w := fun w => by kernel_rfl
  have hp := h.pre i hi
  have hpl : (l.take i).length = i := by rw [List.length_take]; omega
  by_cases hil : i < l.length
  · refine ⟨.slice (some ⟨g, i, none⟩) (l.length - i) (cap - i), _, fun w0 => run_from w0 g l.length cap i _ rfl hi (by omega), fun ty => Lib.run_clear_slice (P := Tryz.prog) w 25 3 ty (.int .i64 0) Tryz.underlying25 hz rfl rfl g i (l.length - i) _ (by omega) (fun j hj => by rw [hc (i + j) (by omega)]; rfl) (fun j hj => hf _), ?_⟩
    have := OI.cleared (base := base) g cap (l.take i) (List.replicate (l.length - i) (Value.int .i64 0)) w i (by rw [hpl]; exact hp) (by omega)
    rw [hpl] at this
    exact this
  · have hil : i = l.length := by omega
    subst hil
    have hrd : RI No w (.slice (some ⟨g, 0, none⟩) l.length cap) l := h.readNo
    obtain ⟨a, c, hsl⟩ : ∃ a c, sliced (some ⟨g, 0, none⟩) l.length l.length cap 1 = .slice a 0 c := ⟨_, _, by unfold sliced; rw [Nat.sub_self]⟩
    have hx : ∀ w0 : World, (Instr.slice 25 (.slice (some ⟨g, 0, none⟩) l.length cap) (some (.int .i64 (l.length : Int))) none none).run Tryz.prog w0 = .ok (.slice a 0 c) w0 := fun w0 => by
      rw [run_slice_l w0 25 _ l.length cap und_el .i64 l.length (by omega) (by omega), run_sz]
      simp only [Result.andThen, Int.toNat_natCast, hsl]
    refine ⟨.slice a 0 c, w, hx, fun ty => ?_, by simpa using h, Chg.refl _ w⟩
    cases a <;> kernel_rfl
theorem wclear_run {ops : Array Oper} {rest : List Oper} {o : Oper} {a : Act} {Q : Exit → Act → World → Prop} {w w' : World} {v : Value} (hgd : o.guard = none) (s : Operand) (t : TypeId)
    (ho : o.op = .call { callee := .builtin .clear, args := #[s], argTypes := #[t] }) (hr : (Builtin.clear_ #[t] o.type #[a.eval s]).run Tryz.prog w = .ok v w')
    (h : wpList Tryz.prog ops Q rest (a.put o.dst v) w') : wpList Tryz.prog ops Q (o :: rest) a w := by
  refine wpList_plain hgd fun _ hK => ?_
  unfold Oper.wp execOp
  simp only [ho, resolve, invoke, builtin, Sem.run_bind, Sem.run_pure, Result.andThen_ok, List.map_toArray, List.map_cons, List.map_nil, hr]
  exact hK _ _ h

set_option maxRecDepth 100000 in
set_option maxHeartbeats 2000000 in
theorem DeleteFunc_any (base : Nat) (v : Value) (l : List Int) (w : World) (h : OI base w v l) (f : FuncId) (c0 : Value) (p : Int → Bool)
    (hcf : ∀ x (w : World), (callFunc f #[.int .i64 x, c0]).run Tryz.prog w = .ok (.enter f #[.int .i64 x, c0]) w)
    (hp : ∀ w1, Chg (own v) w w1 → ∀ x, Calls Tryz.prog f #[.int .i64 x, c0] w1 fun e w' => e = .returned (.bool (p x)) ∧ w1 = w') :
    Calls Tryz.prog 89 #[v, .func (.func f) #[] #[c0]] w (Ret fun r w' => OI base w' r (stay p l) ∧ Chg (own v) w w' ∧ ∀ q, own r q → own v q) := by
  have hL := h.len
  have hp0 := hp w (Chg.refl _ w)
  obtain ⟨a, cap, rfl, hcap, hmax, hvw⟩ := h.view
  cases hany : l.any p
  · have HI : Hid (idxF l p = -1) := Lib.hid (idxF_none l p hany)
    have HS := Lib.hid (stay_none p l hany)
    clear hany hp hvw
    have HP0 := Lib.hid hp0
    have HCF := Lib.hid hcf
    clear hp0 hcf
    go_enter Tryz.func89, Tryz.ntmps89
    go_wp2_with fail
    refine (IndexFunc_any No _ l w h.readNo f c0 p HCF.out (fun x _ => HP0.out x)).mono ?_
    rintro e w' ⟨rfl, rfl⟩
    rw [HI.out]
    go_wp2_with fail
    go_ret
    exact ⟨_, rfl, by rw [HS.out]; exact h, Chg.refl _ _, fun q hq => hq⟩
  · have hlen0 : 0 < l.length := by
      rcases l with _ | ⟨x, l⟩
      · simp at hany
      · simp
    obtain ⟨g, rfl, hg1, hg2, _, _⟩ := hvw (by omega)
    obtain ⟨i0, hi0⟩ : ∃ i0, l.findIdx p = i0 := ⟨_, rfl⟩
    have hi0l : i0 < l.length := by rw [← hi0]; exact List.findIdx_lt_length_of_exists (by simpa using hany)
    have hidx : idxF l p = (i0 : Int) := by rw [idxF, hany, hi0]; rfl
    have hst0 : stay p (l.take i0) = l.take i0 := stay_none p _ (by
      rw [List.any_eq_false]
      intro x hx
      obtain ⟨j, hj, rfl⟩ := List.mem_iff_getElem.1 hx
      rw [List.length_take] at hj
      rw [List.getElem_take]
      have hnl := List.not_of_lt_findIdx (xs := l) (p := p) (i := j) (by omega)
      simpa using hnl)
    have hpi : p l[i0] = true := by
      have := List.findIdx_getElem (xs := l) (p := p) (w := by omega)
      simpa [hi0] using this
    have HI := Lib.hid hidx
    have hst1 : stay p (l.take (i0 + 1)) = l.take i0 := by rw [stay_snoc p l i0 hi0l, hpi, if_pos rfl, hst0]
    have HP := Lib.hid hp
    have HP0 := Lib.hid hp0
    have HCF := Lib.hid hcf
    have hne : ((i0 : Int) == -1) = false := by rw [beq_eq_false_iff_ne]; omega
    have hi00 : (0 : Int) ≤ (i0 : Int) := Int.natCast_nonneg _
    have hwi : IntKind.i64.wrap ((i0 : Int) + 1) = (i0 : Int) + 1 := IntWalk.i64_in _ (by omega)
    clear hany hp hvw hp0 hcf hidx hi0 hpi hst0
    have HST1 := Lib.hid hst1
    clear hst1
    go_enter Tryz.func89, Tryz.ntmps89
    go_wp2_with fail
    refine (IndexFunc_any No _ l w h.readNo f c0 p HCF.out (fun x _ => HP0.out x)).mono ?_
    rintro e w' ⟨rfl, rfl⟩
    rw [HI.out]
    go_wp2_with fail
    go_loopw [5, 6] (fun i j wr => ∃ (k c : Nat) (m : List Int), k ≤ l.length ∧ j = .int .i64 (k : Int) ∧ i = .int .i64 (c : Int) ∧ c < k ∧ m.length = l.length ∧ Hid (c = (stay p (l.take k)).length) ∧ Hid (m.take c = stay p (l.take k)) ∧ Hid (m.drop k = l.drop k) ∧
        OI base wr (.slice (some ⟨g, 0, none⟩) l.length cap) m ∧ Chg (own (.slice (some ⟨g, 0, none⟩) l.length cap)) w wr) (fun _ j _ => l.length - (intOf j).toNat)
    case atStart => exact ⟨i0 + 1, i0, l, by omega, by go_num, rfl, by omega, rfl, Lib.hid (by rw [HST1.out, List.length_take]; omega), Lib.hid HST1.out.symm, Lib.hid rfl, h, Chg.refl _ _⟩
    case round =>
      obtain ⟨k, c, m, hk, rfl, rfl, hck, hml, HC, HT, HD, ho, hch⟩ := hrel
      have hk0 : (0 : Int) ≤ (k : Int) := Int.natCast_nonneg _
      have hc0 : (0 : Int) ≤ (c : Int) := Int.natCast_nonneg _
      by_cases hlt : k < l.length
      · have hcl := ho.at.1 k (by omega)
        obtain ⟨y, hy⟩ : ∃ y, m.getD k 0 = y := ⟨_, rfl⟩
        rw [hy] at hcl
        have hly : l[k] = y := by
          have h1 := congrArg (fun z => z.getD 0 0) HD.out
          simp only [List.getD_eq_getElem?_getD, List.getElem?_drop, Nat.add_zero] at h1
          rw [← hy, List.getD_eq_getElem?_getD, h1, List.getElem?_eq_getElem hlt]; rfl
        have hsn := stay_snoc p l k hlt
        rw [hly] at hsn
        have HML := Lib.hid hml
        have HY := Lib.hid hy
        have hk1 : (k : Int) < (l.length : Int) := by omega
        have hw1 : IntKind.i64.wrap ((k : Int) + 1) = (k : Int) + 1 := IntWalk.i64_in _ (by omega)
        have hw2 : IntKind.i64.wrap ((c : Int) + 1) = (c : Int) + 1 := IntWalk.i64_in _ (by omega)
        have hc1 : (c : Int) < (l.length : Int) := by omega
        have hD1 : m.drop (k + 1) = l.drop (k + 1) := by
          have := congrArg (List.drop 1) HD.out
          rwa [List.drop_drop, List.drop_drop] at this
        have hcc := ho.at.1 c (by omega)
        have hcf' := ho.at.2.1 c
        obtain ⟨s1, s2⟩ := ho.store c y
        have HSN := Lib.hid hsn
        have HD1 := Lib.hid hD1
        have HCF1 := HCF.out
        clear hml hy hly hsn hD1
        go_wp2_with fail
        clear HCF1
        refine (HP.out wr hch y).mono ?_
        rintro e w' ⟨rfl, rfl⟩
        cases hpy : p y
        · go_wp2_with fail
          go_round
          case rel =>
            have hs := HSN.out
            rw [hpy] at hs
            simp only [Bool.false_eq_true, if_false] at hs
            have hml := HML.out
            exact ⟨k + 1, c + 1, m.set c y, by omega, by go_num, by go_num, by omega, by simpa using hml, Lib.hid (by rw [hs, List.length_append, List.length_singleton, ← HC.out]), Lib.hid (by
              rw [hs, ← HT.out, List.take_set, List.take_succ_eq_append_getElem (by omega), List.set_append_right _ _ (by simp; omega)]
              simp [show c - min c m.length = 0 by omega]), Lib.hid (by rw [List.drop_set_of_lt (by omega), HD1.out]), s1, hch.step s2 (fun q hq _ => own_slice.2 hq)⟩
          case measure => simp [intOf]; omega
        · go_wp2_with fail
          go_round
          case rel =>
            have hs := HSN.out
            rw [hpy] at hs
            simp only [if_true] at hs
            exact ⟨k + 1, c, m, by omega, by go_num, rfl, by omega, HML.out, Lib.hid (by rw [hs]; exact HC.out), Lib.hid (by rw [hs]; exact HT.out), HD1, ho, hch⟩
          case measure => simp [intOf]; omega
      · have hkl : k = l.length := by omega
        subst hkl
        have hcl : c ≤ m.length := by omega
        have hT := HT.out
        rw [List.take_length] at hT
        obtain ⟨x, wc, hx1, hx2, oc, kc⟩ := run_clearN wr ho c hcl
        have HTT := Lib.hid hT
        clear hT
        have HX2 := Lib.hid hx2
        clear hx2
        go_wp2_with (refine wclear_run rfl (.tmp 38) 25 rfl (HX2.out _) ?_)
        go_ret
        exact ⟨_, rfl, by rw [← HTT.out]; exact oc, hch.step kc (fun q hq _ => own_slice.2 hq), fun q hq => own_slice.2 (own_slice.1 hq)⟩
end Go.Proofs.YtdgcohoneijleaaGreat
