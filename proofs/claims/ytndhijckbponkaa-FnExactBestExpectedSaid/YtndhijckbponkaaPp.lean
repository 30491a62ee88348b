import Derived.Test.YtndhijckbponkaaSh
import Derived.Test.YtndhijckbponkaaPo
/- a Problem and Chances that came in, opened -/
namespace Go.Proofs.Ytndhijckbponkaa
open Go.RowKit Go.ChangeShapes Go.WideShapes Go.ChangeAt

theorem cells_rows : Try.prog.cellsOf 22 = 1 := by kernel_rfl
theorem cells_lprob : Try.prog.cellsOf 24 = 2 := by kernel_rfl
theorem cells_lchs : Try.prog.cellsOf 27 = 2 := by kernel_rfl
theorem cells_ints2 : Try.prog.cellsOf 25 = 1 := by kernel_rfl
theorem len2 {α : Type} {l : List α} (h : l.length = 2) : ∃ a b, l = [a, b] := by
  match l, h with
  | [a, b], _ => exact ⟨a, b, rfl⟩
section
variable {H : Type} {enc : TypeId × Value → H} {W : World} {spare : Nat → Bool} {held : Bool}
theorem open_rf {fuel : Nat} {x : Value} {y : DataW H × List MemPlace} (hsp : ∀ b, spare b = true) (h : DataW.trod enc Try.prog W 0 spare held fuel 25 [x] = some y) :
    ∃ l : List Int, RF No W x 1 l.length (l.map (Value.int .i64)) := by
  rcases open_ints Try.underlying25 Try.underlying3 (by kernel_rfl) h with ⟨hcs, _⟩ | ⟨x', len, cap, zs, hcs, _, hl, hm, hz, _, hcell, _⟩
  · simp only [List.cons.injEq, and_true] at hcs
    subst hcs
    exact ⟨[], none, 0, rfl, Nat.le_refl _, by omega, rfl, fun _ => rfl, fun h => absurd h (by simp)⟩
  · simp only [List.cons.injEq, and_true] at hcs
    subst hcs
    rw [hsp, if_pos rfl] at hz
    have hm' : cap ≤ 9223372036854775807 := by simpa [maxLen] using hm
    have hlen : (zs.take len).length = len := by rw [List.length_take]; omega
    refine ⟨zs.take len, some x', cap, by rw [hlen], by omega, hm', by simp, (fun e => by cases e), fun hpos => ?_⟩
    obtain ⟨b, off, spot⟩ := x'
    have g0 := hcell 0 (by omega)
    have hspot : spot = none := by simpa [Addr.add] using World.cell?_spot g0
    subst hspot
    refine ⟨b, off, rfl, fun e => e, World.block_lt_of_cell? W _ g0, fun i hi => ?_⟩
    have hi' : i < len := by rw [List.length_map, hlen] at hi; exact hi
    have := hcell i (by omega)
    have e : (⟨b, off, none⟩ : Addr).add i = ⟨b, off + i, none⟩ := by unfold Addr.add; split <;> simp_all
    rw [e] at this
    rw [this]
    have h1 : i < zs.length := by omega
    simp [List.getD_eq_getElem?_getD, List.getElem?_take_of_lt hi', List.getElem?_eq_getElem h1]
theorem open_rows {fuel : Nat} {x : Value} {y : DataW H × List MemPlace} (hsp : ∀ b, spare b = true) (h : DataW.trod enc Try.prog W 0 spare held fuel 22 [x] = some y) :
    ∃ ll, RIIr No W x ll := by
  rcases DataW.trod_slice Try.underlying22 h with ⟨hcs, _⟩ | ⟨a, len, cap, elems, rest, n, _, hcs, _, hb, hl, hm, hlen, hel, _, _⟩
  · simp only [List.cons.injEq, and_true] at hcs
    subst hcs
    exact ⟨[], [], rfl, ⟨none, 0, rfl, Nat.le_refl _, by omega, rfl, fun _ => rfl, fun h => absurd h (by simp)⟩, fun i hi => absurd hi (by simp)⟩
  · simp only [List.cons.injEq, and_true] at hcs
    subst hcs
    have hm' : cap ≤ 9223372036854775807 := by simpa [maxLen] using hm
    have each : ∀ i, i < len → ∃ cs z, W.cells? 0 (a.add (i * 1)) 1 = some cs ∧ DataW.trod enc Try.prog W 0 spare held n 25 cs = some z := fun i hi => by
      have h1 := hel i hi
      rw [cells_ints2, List.getElem?_eq_getElem (by omega), Option.bind_eq_some_iff] at h1
      obtain ⟨cs, h2, h3⟩ := h1
      exact ⟨cs, _, h2, h3⟩
    have h' : ∀ i : Nat, ∃ p : Value × List Int, i < len → W.cell? (a.add i) = some p.1 ∧ RF No W p.1 1 p.2.length (p.2.map (Value.int .i64)) := fun i => by
      by_cases hi : i < len
      · obtain ⟨cs, z, h2, h3⟩ := each i hi
        obtain ⟨hl0, hl1, h4⟩ := World.cells?_some h2
        have hcl : cs.length = 1 := by first | simpa using hl1 | simpa using hl0
        obtain ⟨x0, rfl⟩ : ∃ x0, cs = [x0] := by
          match cs, hcl with
          | [x0], _ => exact ⟨x0, rfl⟩
        obtain ⟨l, hl⟩ := open_rf hsp h3
        have := h4 0 (by omega)
        rw [Nat.mul_one] at this
        refine ⟨(x0, l), fun _ => ⟨?_, hl⟩⟩
        have e : (a.add i).add 0 = a.add i := by unfold Addr.add; split <;> simp_all
        rw [e] at this
        simpa using this
      · exact ⟨(undef, []), fun e => absurd e hi⟩
    obtain ⟨f, hf⟩ := Classical.axiomOfChoice h'
    refine ⟨(List.range len).map (fun i => (f i).2), (List.range len).map (fun i => (f i).1), by simp, ⟨some a, cap, by simp, by simpa using hl, hm', by simp, by simp, fun hpos => ?_⟩, fun i hi => ?_⟩
    · have hpos' : 0 < len := by simpa using hpos
      obtain ⟨b, off, spot⟩ := a
      have g0 := (hf 0 hpos').1
      have hspot : spot = none := by simpa [Addr.add] using World.cell?_spot g0
      subst hspot
      have hadd : ∀ i, (⟨b, off, none⟩ : Addr).add i = ⟨b, off + i, none⟩ := fun i => by unfold Addr.add; split <;> simp_all
      rw [hadd] at g0
      refine ⟨b, off, rfl, fun e => e, World.block_lt_of_cell? W _ g0, fun i hi => ?_⟩
      have hi' : i < len := by simpa using hi
      have g := (hf i hi').1
      rw [hadd] at g
      rw [g]
      simp [List.getD_eq_getElem?_getD, hi']
    · have hi' : i < len := by simpa using hi
      have g := (hf i hi').2
      have e1 : ((List.range len).map (fun i => (f i).1)).getD i undef = (f i).1 := by simp [List.getD_eq_getElem?_getD, hi']
      have e2 : ((List.range len).map (fun i => (f i).2)).getD i [] = (f i).2 := by simp [List.getD_eq_getElem?_getD, hi']
      rw [e1, e2]
      exact g
theorem open_lprob {fuel : Nat} {cs : List Value} {y : DataW H × List MemPlace} (hsp : ∀ b, spare b = true) (h : DataW.trod enc Try.prog W 0 spare held fuel 24 cs = some y) :
    ∃ mv sv m s, cs = [mv, sv] ∧ RIIr No W mv m ∧ RIIr No W sv s := by
  obtain ⟨xs, m, _, _, hlen, hxl, hf⟩ := DataW.trod_struct Try.underlying24 h
  rw [cells_lprob] at hlen
  obtain ⟨x0, x1, rfl⟩ := len2 hlen
  obtain ⟨y0, y1, rfl⟩ := len2 (l := xs) (by simpa using hxl)
  have f0 : DataW.trod enc Try.prog W 0 spare held m 22 (([x0, x1].drop 0).take (Try.prog.cellsOf 22)) = some y0 := hf 0 _ rfl
  have f1 : DataW.trod enc Try.prog W 0 spare held m 22 (([x0, x1].drop 1).take (Try.prog.cellsOf 22)) = some y1 := hf 1 _ rfl
  rw [cells_rows] at f0 f1
  simp only [List.drop_zero, List.drop_succ_cons, List.take_succ_cons, List.take_zero] at f0 f1
  obtain ⟨l0, h0⟩ := open_rows hsp f0
  obtain ⟨l1, h1⟩ := open_rows hsp f1
  exact ⟨x0, x1, l0, l1, rfl, h0, h1⟩
theorem open_lchs {fuel : Nat} {cs : List Value} {y : DataW H × List MemPlace} (hsp : ∀ b, spare b = true) (h : DataW.trod enc Try.prog W 0 spare held fuel 27 cs = some y) :
    ∃ wa wn wc qv q, cs = [.slice wa wn wc, qv] ∧ wn ≤ 9223372036854775807 ∧ (wn ≤ 17592186044416 → ∃ l : List Int, l.length = wn ∧ RI No W (.slice wa wn wc) l) ∧ RIIr No W qv q := by
  obtain ⟨xs, m, _, _, hlen, hxl, hf⟩ := DataW.trod_struct Try.underlying27 h
  rw [cells_lchs] at hlen
  obtain ⟨x0, x1, rfl⟩ := len2 hlen
  obtain ⟨y0, y1, rfl⟩ := len2 (l := xs) (by simpa using hxl)
  have f0 : DataW.trod enc Try.prog W 0 spare held m 25 (([x0, x1].drop 0).take (Try.prog.cellsOf 25)) = some y0 := hf 0 _ rfl
  have f1 : DataW.trod enc Try.prog W 0 spare held m 22 (([x0, x1].drop 1).take (Try.prog.cellsOf 22)) = some y1 := hf 1 _ rfl
  rw [cells_rows] at f1
  rw [cells_ints2] at f0
  simp only [List.drop_zero, List.drop_succ_cons, List.take_succ_cons, List.take_zero] at f0 f1
  obtain ⟨wa, wn, wc, rfl, h1, h2⟩ := open_ri hsp f0
  obtain ⟨l1, h3⟩ := open_rows hsp f1
  exact ⟨wa, wn, wc, x1, l1, rfl, h1, h2, h3⟩
end
end Go.Proofs.Ytndhijckbponkaa
