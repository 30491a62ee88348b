import Derived.Test.YtmnohickmidfkaaDoorWb
/- records drawn -/
namespace Go.Proofs.YtmnohickmidfkaaDoor
open Go.RowKit

theorem RF.lit {A : Nat → Prop} (W : World) (cs : Array Value) (n : Nat) (T : TypeId) (hn : n = cs.size) (hA : ¬ A W.heap.size) (hb : cs.size ≤ 1000) : RF A (W.alloc (.cells cs T)) (.slice (some ⟨W.heap.size, 0, none⟩) n n) 1 n cs.toList := by
  subst hn
  refine ⟨_, _, rfl, Nat.le_refl _, by omega, by simp, by simp, fun _ => ⟨W.heap.size, 0, rfl, hA, by rw [World.size_alloc]; omega, fun i hi => ?_⟩⟩
  rw [World.cell?_alloc_new]
  have hi' : i < cs.size := by simpa using hi
  simp [List.getD_eq_getElem?_getD, hi']
theorem elBytes : El 51 5 (.int .u8 0) 1 1 := El.mk' Tryd.underlying51 (by kernel_rfl) rfl (by decide)
/-- make([]byte, n) -/
theorem wmakeB {ops : Array Oper} {rest : List Oper} {o : Oper} {a : Act} {Q : Exit → Act → World → Prop} {w : World} (hgd : o.guard = none) (x y : Operand)
    (ho : o.op = Op.makeSlice 51 x y) (n : Nat) (hx : a.eval x = .int .i64 (n : Int)) (hy : a.eval y = .int .i64 (n : Int)) (hn : n ≤ 1099511627776)
    (h : ∀ w', BY w' w.heap.size (List.replicate n 0) → Chg No w w' → wpList Tryd.prog ops Q rest (a.put o.dst (.slice (some ⟨w.heap.size, 0, none⟩) n n)) w') : wpList Tryd.prog ops Q (o :: rest) a w := by
  obtain ⟨i0, hi, hz0, hz1, hz2⟩ := elBytes.info
  refine wpList_make_full w hgd x y 51 ho w.heap.size 5 i0 (.int .u8 0) 1 elBytes.und hi hz0 hz1 .i64 .i64 n n n hx hy rfl rfl (by rw [hz2]; omega) (by unfold maxLen; omega) (Nat.le_refl _) (fun w' h1 h2 => ?_)
  have e : (madeCells (Value.int IntKind.u8 0).cells (n * 1)).toList = List.replicate n (.int .u8 0) := by
    rw [Nat.mul_one]
    exact toList_madeCells_one _ _
  rw [e] at h1
  have hO : OS 5 1 w.heap.size w' (.slice (some ⟨w.heap.size, 0, none⟩) n n) n (List.replicate n (.int .u8 0)) := ⟨hn, h1⟩
  obtain ⟨g1, g2, _, g4, _⟩ := hO.at
  refine h w' ⟨g4, fun j hj => ?_, fun j _ => g2 j⟩ (Chg.grownNone h2)
  rw [List.length_replicate] at hj
  rw [g1 j (by rw [List.length_replicate]; exact hj)]
  simp [List.getD_eq_getElem?_getD, hj]
def okS : Value → Bool
  | .string s => decide (s.size ≤ 64)
  | _ => false
theorem okS_str {x : Value} (h : okS x = true) : ∃ l : List UInt8, x = .string ⟨l.toArray⟩ ∧ l.length ≤ 64 := by
  cases x <;> simp only [okS, decide_eq_true_eq, Bool.false_eq_true] at h
  rename_i s
  exact ⟨s.data.toList, rfl, by rw [Array.length_toList]; exact h⟩
/-- one of some texts that are written out -/
theorem of_lit (b B K : Nat) (W : World) (cs : Array Value) (T : TypeId) (g n : Nat) (hg : W.heap.size = g) (hn : n = cs.size) (h : Cur W b B K) (hK : K ≤ 1000000000) (h1 : 1 ≤ n) (h2 : n ≤ 1000) (hs : cs.toList.all okS = true) :
    Calls Tryd.prog 75 #[.pointer (some ⟨b, 0, none⟩), .slice (some ⟨g, 0, none⟩) n n] (W.alloc (.cells cs T)) fun e w' => ∃ l : List UInt8, e = .returned (.string ⟨l.toArray⟩) ∧ l.length ≤ 64 ∧ Cur w' b B (K + 2) ∧ Chg (fun q => q = b) W w' := by
  subst hg
  have hb : b < W.heap.size := h.lt
  refine (of_any b B K _ n cs.toList _ (h.keep ((Chg.refl No W).alloc _)) hK (RF.lit W cs n T hn (by omega) (by omega)) h1 h2 (fun x hx => okS_str (List.all_eq_true.1 hs x hx))).mono ?_
  rintro e w' ⟨l, rfl, hl, hc, hk⟩
  exact ⟨l, rfl, hl, hc, ((Chg.refl (fun q => q = b) W).alloc _).trans hk⟩

set_option maxRecDepth 100000 in
set_option maxHeartbeats 2000000 in
theorem logRecord_any (b B K : Nat) (w : World) (h : Cur w b B K) (hB : B ≤ w.heap.size) (hK : K ≤ 900000000) :
    Calls Tryd.prog 55 #[.pointer (some ⟨b, 0, none⟩)] w fun e w' => ∃ c r : List UInt8, e = .returned (rv c r) ∧ c.length ≤ 64 ∧ r.length ≤ 64 ∧ Cur w' b B (K + 10) ∧ Chg (fun q => q = b) w w' := by
  have hb := h.lt
  have kb := (Chg.refl (fun q => q = b) w).alloc (.cells #[.string ⟨#[]⟩, .string ⟨#[]⟩] 43)
  have bx := Box2.new w (.string ⟨#[]⟩) (.string ⟨#[]⟩) 43
  have HB : Hid (∀ W, Chg (fun q => q = b) (w.alloc (.cells #[.string ⟨#[]⟩, .string ⟨#[]⟩] 43)) W → Box2 W w.heap.size (.string ⟨#[]⟩) (.string ⟨#[]⟩)) := Lib.hid (fun W hW => bx.step hW (by omega))
  have HC := Lib.hid (h.keep ((Chg.refl No w).alloc (.cells #[.string ⟨#[]⟩, .string ⟨#[]⟩] 43)))
  have e1 := Lib.hid (of_lit b B K (w.alloc (.cells #[.string ⟨#[]⟩, .string ⟨#[]⟩] 43)) #[.string ⟨#[98, 101, 115, 116]⟩, .string ⟨#[106, 111, 105, 110, 32, 108, 114, 117, 32, 50]⟩, .string ⟨#[120]⟩, .string ⟨#[114, 101, 113, 117, 101, 115, 116, 32, 49]⟩, .string ⟨#[48, 32, 49]⟩] 9 (w.heap.size + 1) 5 (by rw [World.size_alloc]) rfl HC.out (by omega) (by decide) (by decide) (by rfl))
  have e2 := Lib.hid (fun W (hW : Cur W b B (K + 2)) => of_lit b B (K + 2) W #[.string ⟨#[]⟩, .string ⟨#[51]⟩, .string ⟨#[63]⟩, .string ⟨#[97, 64, 98]⟩, .string ⟨#[51, 32, 49, 32, 50]⟩] 9 W.heap.size 5 rfl rfl hW (by omega) (by decide) (by decide) (by rfl))
  have e3 := Lib.hid (fun W (hW : Cur W b B (K + 6)) => of_lit b B (K + 6) W #[.string ⟨#[35]⟩, .string ⟨#[10]⟩, .string ⟨#[127]⟩] 9 W.heap.size 3 rfl rfl hW (by omega) (by decide) (by decide) (by rfl))
  have e4 := Lib.hid (fun W (hW : Cur W b B (K + 6)) => of_lit b B (K + 6) W #[.string ⟨#[]⟩, .string ⟨#[97, 64, 98]⟩, .string ⟨#[97, 35]⟩, .string ⟨#[10]⟩, .string ⟨#[0, 0, 0]⟩] 9 W.heap.size 5 rfl rfl hW (by omega) (by decide) (by decide) (by rfl))
  unfold rv
  clear h bx
  go_enter Tryd.func55, Tryd.ntmps55
  go_wp2_with (first
    | (go_at_call 75; first
      | (with_reducible refine (e3.out _ hc3').mono ?_; rintro e w4 ⟨l4, rfl, hl4, hc4, hk4⟩; have g4 := bxe.step hk4 (by omega); obtain ⟨c0, c1, fr⟩ := g4; obtain ⟨d0, d1, fd⟩ := HB.out w4 (kk3.trans hk4))
      | (with_reducible refine (e2.out _ hc1).mono ?_; rintro e w2 ⟨r, rfl, hr, hc2, hk2⟩)
      | (with_reducible refine (e1.out).mono ?_; rintro e w1 ⟨c, rfl, hc, hc1, hk1⟩))
    | (refine wmakeB rfl _ _ rfl 3 rfl rfl (by omega) ?_; intro W5 hBY hkW; have hBY' : BY W5 _ [0, 0, 0] := hBY; have hbk := hBY'.back 3 3 rfl; have hc5 := hc3'.keep hkW)
    | (go_at_call 59; refine (pick_any b B (K + 4) 24 _ (hc2.keep ((Chg.refl No w2).alloc _)) (by omega) (by omega)).mono ?_; rintro e w3 ⟨x, rfl, hx0, hx1, _, hc3, hk3⟩; have ha := hc1.lt; have hs2 := hk2.size; have bxe := (Box2.new w2 (.string ⟨c.toArray⟩) (.string ⟨r.toArray⟩) 43).step hk3 (by omega); have kk3 := (hk1.trans hk2).trans (((Chg.refl (fun q => q = b) w2).alloc (.cells #[.string ⟨c.toArray⟩, .string ⟨r.toArray⟩] 43)).trans hk3); have hc3' := hc3; have hs1 := hk1.size; have hsa : w.heap.size + 1 ≤ w1.heap.size := (by rw [World.size_alloc] at hs1; exact hs1); have hne1 : ¬ w2.heap.size = w.heap.size := (by omega); have hne2 : ¬ w.heap.size = w2.heap.size := (by omega); obtain ⟨c0, c1, fr⟩ := id bxe; obtain ⟨d0, d1, fd⟩ := HB.out w3 kk3))
  all_goals first
    | (have kst := chg_at w4 w2.heap.size 1 (.string ⟨l4.toArray⟩)
       have kr := (kb.trans (kk3.trans hk4)).step kst (fun q hq hl => by omega)
       have hc5 := hc4.step kst (fun q hq => by omega)
       obtain ⟨z0, z1, _⟩ := ((HB.out w4 (kk3.trans hk4)).step kst (by omega)).put2 (.string ⟨c.toArray⟩) (.string ⟨l4.toArray⟩)
       refine bodyPost_ret (v := .agg #[.string ⟨c.toArray⟩, .string ⟨l4.toArray⟩]) (by simp [results, Tryd.results55, go_sem, z0, z1]) rfl ?_
       exact ⟨c, l4, rfl, hc, hl4, (hc5.step ((Chg.refl (fun q => q = w.heap.size) _).put2 (fun _ => rfl) _ _) (fun q hq => by omega)).more (by omega), kr.put2 (fun h => absurd h (by omega)) _ _⟩)
    | (refine (e4.out _ hc5).mono ?_
       rintro e w4 ⟨l4, rfl, hl4, hc4, hk4'⟩
       have hk4 := ((Chg.refl (fun q => q = b) w3).step hkW (fun _ e _ => e.elim)).trans hk4'
       have g4 := bxe.step hk4 (by omega)
       clear c0 c1 fr d0 d1 fd
       obtain ⟨c0, c1, fr⟩ := g4
       obtain ⟨d0, d1, fd⟩ := HB.out w4 (kk3.trans hk4)
       go_wp2_with fail
       have kst := chg_at w4 w2.heap.size 0 (.string ⟨l4.toArray⟩)
       have kr := (kb.trans (kk3.trans hk4)).step kst (fun q hq hl => by omega)
       have hc5 := hc4.step kst (fun q hq => by omega)
       obtain ⟨z0, z1, _⟩ := ((HB.out w4 (kk3.trans hk4)).step kst (by omega)).put2 (.string ⟨l4.toArray⟩) (.string ⟨r.toArray⟩)
       refine bodyPost_ret (v := .agg #[.string ⟨l4.toArray⟩, .string ⟨r.toArray⟩]) (by simp [results, Tryd.results55, go_sem, z0, z1]) rfl ?_
       exact ⟨l4, r, rfl, hl4, hr, (hc5.step ((Chg.refl (fun q => q = w.heap.size) _).put2 (fun _ => rfl) _ _) (fun q hq => by omega)).more (by omega), kr.put2 (fun h => absurd h (by omega)) _ _⟩)
    | (have kr := kb.trans kk3
       obtain ⟨z0, z1, _⟩ := (HB.out w3 kk3).put2 (.string ⟨c.toArray⟩) (.string ⟨r.toArray⟩)
       refine bodyPost_ret (v := .agg #[.string ⟨c.toArray⟩, .string ⟨r.toArray⟩]) (by simp [results, Tryd.results55, go_sem, z0, z1]) rfl ?_
       exact ⟨c, r, rfl, hc, hr, (hc3'.step ((Chg.refl (fun q => q = w.heap.size) _).put2 (fun _ => rfl) _ _) (fun q hq => by omega)).more (by omega), kr.put2 (fun h => absurd h (by omega)) _ _⟩)
end Go.Proofs.YtmnohickmidfkaaDoor
