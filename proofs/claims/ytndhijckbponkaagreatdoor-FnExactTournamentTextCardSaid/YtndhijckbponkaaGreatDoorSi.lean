import Derived.Test.YtndhijckbponkaaGreatDoorSh
import Derived.Test.YtndhijckbponkaaGreatDoorTi
/- a Tournament that came in, opened -/
namespace Go.Proofs.YtndhijckbponkaaGreatDoor
open Go.RowKit Go.ChangeShapes Go.WideShapes Go.ChangeAt

theorem cells_player : Tryz.prog.cellsOf 95 = 7 := by kernel_rfl
theorem cells_tour : Tryz.prog.cellsOf 25 = 3 := by kernel_rfl
theorem cells_players : Tryz.prog.cellsOf 22 = 1 := by kernel_rfl
theorem len7 {α : Type} {l : List α} (h : l.length = 7) : ∃ a b c d e f g, l = [a, b, c, d, e, f, g] := by
  match l, h with
  | [a, b, c, d, e, f, g], _ => exact ⟨a, b, c, d, e, f, g, rfl⟩
theorem len3 {α : Type} {l : List α} (h : l.length = 3) : ∃ a b c, l = [a, b, c] := by
  match l, h with
  | [a, b, c], _ => exact ⟨a, b, c, rfl⟩
section
variable {H : Type} {enc : TypeId × Value → H} {W : World} {spare : Nat → Bool} {held : Bool}
theorem open_player {fuel : Nat} {cs : List Value} {y : DataW H × List MemPlace} (hsp : ∀ b, spare b = true) (h : DataW.trod enc Tryz.prog W 0 spare held fuel 95 cs = some y) :
    ∃ f p k a n q a' n' q' hd fa, cs = [.int .i64 f, .int .i64 p, .int .i64 k, .slice a n q, .slice a' n' q', .int .i64 hd, .int .i64 fa] ∧ n ≤ 9223372036854775807 ∧ n' ≤ 9223372036854775807 ∧
      (n ≤ 17592186044416 → ∃ l : List Int, l.length = n ∧ RI No W (.slice a n q) l) ∧ (n' ≤ 17592186044416 → ∃ l : List Int, l.length = n' ∧ RI No W (.slice a' n' q') l) := by
  obtain ⟨xs, m, _, _, hlen, hxl, hf⟩ := DataW.trod_struct Tryz.underlying95 h
  rw [cells_player] at hlen
  obtain ⟨x0, x1, x2, x3, x4, x5, x6, rfl⟩ := len7 hlen
  obtain ⟨y0, y1, y2, rfl⟩ := len3 (l := xs) (by simpa using hxl)
  have f0 : DataW.trod enc Tryz.prog W 0 spare held m 3 (([x0, x1, x2, x3, x4, x5, x6].drop 0).take (Tryz.prog.cellsOf 3)) = some y0 := hf 0 _ rfl
  have f1 : DataW.trod enc Tryz.prog W 0 spare held m 93 (([x0, x1, x2, x3, x4, x5, x6].drop 1).take (Tryz.prog.cellsOf 93)) = some y1 := hf 1 _ rfl
  have f2 : DataW.trod enc Tryz.prog W 0 spare held m 3 (([x0, x1, x2, x3, x4, x5, x6].drop 6).take (Tryz.prog.cellsOf 3)) = some y2 := hf 2 _ rfl
  rw [cells_int] at f0 f2
  rw [cells_cache] at f1
  simp only [List.drop_zero, List.drop_succ_cons, List.take_succ_cons, List.take_zero] at f0 f1 f2
  obtain ⟨f, rfl⟩ := open_i64 f0
  obtain ⟨p, k, hd, a, n, q, a', n', q', e, h1, h1', h2, h2'⟩ := open_cache hsp f1
  obtain ⟨fa, rfl⟩ := open_i64 f2
  simp only [List.cons.injEq, and_true] at e
  obtain ⟨rfl, rfl, rfl, rfl, rfl⟩ := e
  exact ⟨f, p, k, a, n, q, a', n', q', hd, fa, rfl, h1, h1', h2, h2'⟩
theorem open_players {fuel : Nat} {x : Value} {y : DataW H × List MemPlace} (hsp : ∀ b, spare b = true) (h : DataW.trod enc Tryz.prog W 0 spare held fuel 22 [x] = some y) :
    ∃ m pn mn, RawPS W x m pn mn := by
  rcases DataW.trod_slice Tryz.underlying22 h with ⟨hcs, _⟩ | ⟨a, len, cap, elems, rest, n, _, hcs, _, hb, hl, hm, hlen, hel, _, _⟩
  · simp only [List.cons.injEq, and_true] at hcs
    subst hcs
    exact ⟨0, fun _ => 0, fun _ => 0, none, 0, rfl, Nat.le_refl _, by omega, fun _ => rfl, fun h => absurd h (by omega)⟩
  · simp only [List.cons.injEq, and_true] at hcs
    subst hcs
    have hm' : cap ≤ 9223372036854775807 := by simpa [maxLen] using hm
    have each : ∀ i, i < len → ∃ cs z, W.cells? 0 (a.add (i * 7)) 7 = some cs ∧ DataW.trod enc Tryz.prog W 0 spare held n 95 cs = some z := fun i hi => by
      have h1 := hel i hi
      rw [cells_player, List.getElem?_eq_getElem (by omega), Option.bind_eq_some_iff] at h1
      obtain ⟨cs, h2, h3⟩ := h1
      exact ⟨cs, _, h2, h3⟩
    by_cases h0 : 0 < len
    · have hspot : a.spot = none := by
        obtain ⟨cs, z, h2, _⟩ := each 0 h0
        have h3 := (World.cells?_some h2).2.2 0 (by omega)
        have h4 := (World.cells?_some h2).2.1
        rw [List.getElem?_eq_getElem (by omega)] at h3
        have := World.cell?_spot h3
        simpa [Addr.add] using this
      obtain ⟨b, off, spot⟩ := a
      simp only at hspot
      subst hspot
      have hadd : ∀ i, (⟨b, off, none⟩ : Addr).add i = ⟨b, off + i, none⟩ := fun i => by unfold Addr.add; split <;> simp_all
      have h' : ∀ i : Nat, ∃ p : Nat × Nat, i < len → RawP W b (off + i * 7) p.1 p.2 := fun i => by
        by_cases hi : i < len
        · obtain ⟨cs, z, h2, h3⟩ := each i hi
          have h4 := (World.cells?_some h2).2.2
          rw [hadd] at h4
          obtain ⟨f, p, k, a1, n1, q1, a2, n2, q2, hd, fa, rfl, g1, g2, g3, g4⟩ := open_player hsp h3
          have c := fun r (hr : r < 7) => h4 r hr
          have hadd2 : ∀ r, (⟨b, off + i * 7, none⟩ : Addr).add r = ⟨b, off + i * 7 + r, none⟩ := fun r => by unfold Addr.add; split <;> simp_all
          refine ⟨(n1, n2), fun _ => ⟨f, p, k, a1, q1, a2, q2, hd, fa, ⟨?_, ?_, ?_, ?_, ?_, ?_, ?_⟩, g1, g2, g3, g4⟩⟩
          · have := c 0 (by omega); rw [hadd2] at this; simpa using this
          · have := c 1 (by omega); rw [hadd2] at this; simpa using this
          · have := c 2 (by omega); rw [hadd2] at this; simpa using this
          · have := c 3 (by omega); rw [hadd2] at this; simpa using this
          · have := c 4 (by omega); rw [hadd2] at this; simpa using this
          · have := c 5 (by omega); rw [hadd2] at this; simpa using this
          · have := c 6 (by omega); rw [hadd2] at this; simpa using this
        · exact ⟨(0, 0), fun e => absurd e hi⟩
      obtain ⟨f, hf⟩ := Classical.axiomOfChoice h'
      have hbl : b < W.heap.size := by
        obtain ⟨f0, p, k, a1, q1, a2, q2, hd, fa, h7, _⟩ := hf 0 h0
        exact World.block_lt_of_cell? W _ h7.c0
      exact ⟨len, fun i => (f i).1, fun i => (f i).2, some ⟨b, off, none⟩, cap, rfl, hl, hm', by simp, fun _ => ⟨b, off, rfl, hbl, fun i hi => hf i hi⟩⟩
    · exact ⟨len, fun _ => 0, fun _ => 0, some a, cap, rfl, hl, hm', by simp, fun h => absurd h h0⟩
theorem open_tour {fuel : Nat} {cs : List Value} {y : DataW H × List MemPlace} (hsp : ∀ b, spare b = true) (h : DataW.trod enc Tryz.prog W 0 spare held fuel 25 cs = some y) :
    ∃ it pv m pn mn ra rn rc, cs = [.int .i64 it, pv, .slice ra rn rc] ∧ RawPS W pv m pn mn ∧ rn ≤ 9223372036854775807 ∧ (rn ≤ 17592186044416 → ∃ l : List Int, l.length = rn ∧ RI No W (.slice ra rn rc) l) := by
  obtain ⟨xs, m, _, _, hlen, hxl, hf⟩ := DataW.trod_struct Tryz.underlying25 h
  rw [cells_tour] at hlen
  obtain ⟨x0, x1, x2, rfl⟩ := len3 hlen
  obtain ⟨y0, y1, y2, rfl⟩ := len3 (l := xs) (by simpa using hxl)
  have f0 : DataW.trod enc Tryz.prog W 0 spare held m 3 (([x0, x1, x2].drop 0).take (Tryz.prog.cellsOf 3)) = some y0 := hf 0 _ rfl
  have f1 : DataW.trod enc Tryz.prog W 0 spare held m 22 (([x0, x1, x2].drop 1).take (Tryz.prog.cellsOf 22)) = some y1 := hf 1 _ rfl
  have f2 : DataW.trod enc Tryz.prog W 0 spare held m 23 (([x0, x1, x2].drop 2).take (Tryz.prog.cellsOf 23)) = some y2 := hf 2 _ rfl
  rw [cells_int] at f0
  rw [cells_players] at f1
  rw [cells_ints] at f2
  simp only [List.drop_zero, List.drop_succ_cons, List.take_succ_cons, List.take_zero] at f0 f1 f2
  obtain ⟨it, rfl⟩ := open_i64 f0
  obtain ⟨m', pn, mn, hP⟩ := open_players hsp f1
  obtain ⟨ra, rn, rc, rfl, h1, h2⟩ := open_ri hsp f2
  exact ⟨it, x1, m', pn, mn, ra, rn, rc, rfl, hP, h1, h2⟩
end
end Go.Proofs.YtndhijckbponkaaGreatDoor
