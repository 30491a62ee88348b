import Derived.Test.YtmnohickmidfkaaGreatDoorZb
import Derived.Test.YtmnohickmidfkaaGreatDoorSi
import Derived.Test.YtmnohickmidfkaaGreatDoorLg
/- the law of IsValidConsole returns true -/
namespace Go.Proofs.YtmnohickmidfkaaGreatDoor
open Go.RowKit Go.ChangeShapes Go.WideShapes Go.ChangeAt

theorem len6' {α : Type} {l : List α} (h : l.length = 6) : ∃ a b c d e f, l = [a, b, c, d, e, f] := by
  match l, h with
  | [a, b, c, d, e, f], _ => exact ⟨a, b, c, d, e, f, rfl⟩
theorem len2'' {α : Type} {l : List α} (h : l.length = 2) : ∃ a b, l = [a, b] := by
  match l, h with
  | [a, b], _ => exact ⟨a, b, rfl⟩
theorem open_con {H : Type} {enc : TypeId × Value → H} {W : World} {spare : Nat → Bool} {held : Bool} {fuel : Nat} {cs : List Value} {y : DataW H × List MemPlace} (hsp : ∀ b, spare b = true) (h : DataW.trod enc Tryz.prog W 0 spare held fuel 29 cs = some y) :
    ∃ (it : Int) (pv : Value) (m : Nat) (pn mn : Nat → Nat) (ra : Option Addr) (rn rc : Nat) (d p : List UInt8) (n : Int), cs = [.int .i64 it, pv, .slice ra rn rc, .string ⟨d.toArray⟩, .string ⟨p.toArray⟩, .int .i64 n] ∧ RawPS W pv m pn mn ∧ rn ≤ 9223372036854775807 ∧ (rn ≤ 17592186044416 → ∃ l : List Int, l.length = rn ∧ RI No W (.slice ra rn rc) l) ∧ d.length ≤ 9223372036854775807 ∧ p.length ≤ 9223372036854775807 := by
  obtain ⟨xs, m, _, _, hlen, hxl, hf⟩ := DataW.trod_struct Tryz.underlying29 h
  rw [cells_con] at hlen
  obtain ⟨x0, x1, x2, x3, x4, x5, rfl⟩ := len6' hlen
  obtain ⟨y0, y1, rfl⟩ := len2'' (l := xs) (by simpa using hxl)
  have f0 : DataW.trod enc Tryz.prog W 0 spare held m 25 (([x0, x1, x2, x3, x4, x5].drop 0).take (Tryz.prog.cellsOf 25)) = some y0 := hf 0 _ rfl
  have f1 : DataW.trod enc Tryz.prog W 0 spare held m 27 (([x0, x1, x2, x3, x4, x5].drop 3).take (Tryz.prog.cellsOf 27)) = some y1 := hf 1 _ rfl
  rw [cells_tour'] at f0
  rw [cells_log'] at f1
  simp only [List.drop_zero, List.drop_succ_cons, List.take_succ_cons, List.take_zero] at f0 f1
  obtain ⟨it, pv, m', pn, mn, ra, rn, rc, e0, hP, h1, h2⟩ := open_tour hsp f0
  obtain ⟨d, p, n, e1, h3, h4⟩ := open_log f1
  simp only [List.cons.injEq, and_true] at e0 e1
  obtain ⟨rfl, rfl, rfl⟩ := e0
  obtain ⟨rfl, rfl, rfl⟩ := e1
  exact ⟨it, _, m', pn, mn, ra, rn, rc, d, p, n, rfl, hP, h1, h2, h3, h4⟩

set_option maxRecDepth 100000 in
set_option maxHeartbeats 2000000 in
theorem law_IsValidConsole (it : Int) (v : Value) (m : Nat) (pn mn : Nat → Nat) (ra : Option Addr) (rn rc : Nat) (d p : List UInt8) (n : Int) (w : World) (h : RawPS w v m pn mn) (hrn : rn ≤ 9223372036854775807) (hr : rn ≤ 17592186044416 → ∃ l : List Int, l.length = rn ∧ RI No w (.slice ra rn rc) l) (hd : d.length ≤ 9223372036854775807) (hp : p.length ≤ 9223372036854775807) (hw : Lay w) :
    Calls Tryz.prog 3 #[.agg #[.int .i64 it, v, .slice ra rn rc, .string ⟨d.toArray⟩, .string ⟨p.toArray⟩, .int .i64 n]] w fun e w' => e = .returned (.bool true) ∧ Chg No w w' := by
  obtain ⟨pa, pc, rfl, hpc, hpc2, _⟩ := id h
  have k0 := (Chg.refl No w).alloc (.cells #[.int .i64 it, .slice pa m pc, .slice ra rn rc, .string ⟨d.toArray⟩, .string ⟨p.toArray⟩, .int .i64 n] 29)
  have bx := Box6.new w (.int .i64 it) (.slice pa m pc) (.slice ra rn rc) (.string ⟨d.toArray⟩) (.string ⟨p.toArray⟩) (.int .i64 n) 29
  have HBOX : Hid (∀ W, Chg No (w.alloc (.cells #[.int .i64 it, .slice pa m pc, .slice ra rn rc, .string ⟨d.toArray⟩, .string ⟨p.toArray⟩, .int .i64 n] 29)) W → Box6 W w.heap.size (.int .i64 it) (.slice pa m pc) (.slice ra rn rc) (.string ⟨d.toArray⟩) (.string ⟨p.toArray⟩) (.int .i64 n)) := Lib.hid (fun W hW => bx.keep hW)
  have HL := Lib.hid (hw.keep k0)
  have q0 := Lib.hid (szConsole_any it _ m pn mn ra rn rc d p n _ (h.keep k0) hrn hd hp)
  clear hw
  obtain ⟨f, hf⟩ : ∃ f, (fun i => pn i + mn i) = f := ⟨_, rfl⟩
  rw [hf] at q0
  by_cases hfit : m + totN f m + rn ≤ 1048576 ∧ (d.length : Int) + (p.length : Int) ≤ 1048576 - m - totN f m - rn
  · have E1 : Hid (szCo m f rn d p 1048576 = 1048576 - m - totN f m - rn - d.length - p.length) := Lib.hid (by
      have e : szTo m f rn 1048576 = 1048576 - m - totN f m - rn := by unfold szTo; rw [if_pos (by omega)]
      unfold szCo
      rw [e, if_neg (by omega), if_pos (by omega)])
    obtain ⟨L, hL⟩ : ∃ L : Int, 1048576 - m - totN f m - rn - d.length - p.length = L := ⟨_, rfl⟩
    have hL0 : ¬ L < 0 := by omega
    have hd2 : d.length ≤ 1048576 := by omega
    have hp2 : p.length ≤ 1048576 := by omega
    rw [hL] at E1
    rw [E1.out] at q0
    obtain ⟨rq, hrl, hrq⟩ := hr (by omega)
    obtain ⟨ps, hpl, hps⟩ := h.read (by omega) (by rw [hf]; omega)
    have hC0 : RCon w (.agg #[.int .i64 it, .slice pa m pc, .slice ra rn rc, .string ⟨d.toArray⟩, .string ⟨p.toArray⟩, .int .i64 n]) ⟨it, ps, rq⟩ d p n := ⟨_, _, rfl, hps, hrq⟩
    generalize (⟨it, ps, rq⟩ : To) = t at hC0
    have HC := Lib.hid (hC0.keep k0)
    have q1 := Lib.hid (fun W hW => toConsole_any _ t d p n W (HC.out.keep hW))
    clear hfit h hr hf hrl hpl hrq hps hC0 hL E1
    obtain ⟨c0, c1, c2, c3, c4, c5, fr⟩ := bx
    go_enter Tryz.func3, Tryz.ntmps3
    go_upto_region 10 with (first
      | (go_at_call 4; refine (q0.out).mono ?_; rintro e w1 ⟨rfl, hk1⟩; obtain ⟨c0, c1, c2, c3, c4, c5, fr⟩ := HBOX.out w1 hk1)
      | (go_at_call 6; first
        | (have k3 := hk3; refine (q1.out _ kA).mono ?_; rintro e w4 ⟨v4, rfl, r4, hk4⟩; obtain ⟨xp, xr, rfl, hxp, hxr⟩ := id r4; obtain ⟨xa, xn, xc, rfl⟩ := hxp.shape; obtain ⟨ya, yn, yc, rfl⟩ := hxr.shape; have HBX := Lib.hid (Box6.new w4 (.int .i64 t.items) (.slice xa xn xc) (.slice ya yn yc) (.string ⟨d.toArray⟩) (.string ⟨p.toArray⟩) (.int .i64 n) 37); obtain ⟨d0, d1, d2, d3, d4, d5, fd⟩ := Box6.new w4 (.int .i64 0) (.slice none 0 0) (.slice none 0 0) (.string ByteArray.empty) (.string ByteArray.empty) (.int .i64 0) 37; have k4 := (Chg.refl No w4).alloc (.cells #[.int .i64 t.items, .slice xa xn xc, .slice ya yn yc, .string ⟨d.toArray⟩, .string ⟨p.toArray⟩, .int .i64 n] 37))
        | (refine (q1.out _ hk1).mono ?_; rintro e w2 ⟨v2, rfl, r2, hk2⟩))
      | (go_at_call 5; refine (specConsole_any _ t d p n _ r2 hd2 hp2).mono ?_; rintro e w3 ⟨rfl, hk3⟩; have kA := hk1.trans (hk2.trans hk3); obtain ⟨c0, c1, c2, c3, c4, c5, fr⟩ := HBOX.out _ kA)
      | (go_at_call 7; refine (implConsole_any _ t d p n _ (r4.keep k4) hd2 hp2 (HL.out.keep ((kA.trans hk4).trans k4))).mono ?_; rintro e w5 ⟨rfl, hk5⟩; have kB := ((kA.trans hk4).trans k4).trans hk5))
    have HX : Hid (∀ W, Chg No w5 W → Box6 W w4.heap.size (.int .i64 t.items) (.slice xa xn xc) (.slice ya yn yc) (.string ⟨d.toArray⟩) (.string ⟨p.toArray⟩) (.int .i64 n)) := Lib.hid (fun W hW => HBX.out.keep (hk5.trans hW))
    clear c0 c1 c2 c3 c4 c5 fr d0 d1 d2 d3 d4 d5 fd
    refine wp_region_K (S := fun W => Chg No w5 W) (k := 3) (by kernel_rfl) ?_
    have h0 : Chg No w5 w5.drew := (Chg.refl No w5).drew
    generalize w5.drew = W0 at h0 ⊢
    refine wpAnyK_take 0 (.agg #[.int .i64 t.items, .slice xa xn xc, .slice ya yn yc, .string ⟨d.toArray⟩, .string ⟨p.toArray⟩, .int .i64 n]) rfl (by kernel_rfl) (fun _ _ _ h => h) h0 rfl (by intro w hw; obtain ⟨c0, c1, c2, c3, c4, c5, fr⟩ := HX.out w hw; go_simp) ?_
    simp only [List.getElem_toArray, List.getElem_cons_zero, Act.put, List.setIfInBounds_toArray, List.set_cons_zero, List.set_cons_succ]
    refine wpAnyK_1 1 (by kernel_rfl) (wpOpK' rfl rfl ?_)
    intro K hK
    obtain ⟨c0, c1, c2, c3, c4, c5, fr⟩ := HBOX.out W0 (kB.trans h0)
    unfold Oper.wp execOp
    go_simp
    refine hK.out _ _ h0 ?_
    clear hK K c0 c1 c2 c3 c4 c5 fr
    simp only [List.setIfInBounds_toArray]
    refine wpAnyK_1 2 (by kernel_rfl) (wpOpK' rfl rfl ?_)
    intro K hK
    refine ocall (f := 6) (args := #[.agg #[.int .i64 it, .slice pa m pc, .slice ra rn rc, .string ⟨d.toArray⟩, .string ⟨p.toArray⟩, .int .i64 n]]) (φ := fun v' w' => RCon w' v' t d p n ∧ Chg No W0 w') (by go_simp) ((q1.out W0 (kB.trans h0)).mono fun e w' h => h) (fun v6 w6 h6 => hK.out _ _ (h0.trans h6.2) ?_)
    obtain ⟨r6, k6⟩ := h6
    clear hK K
    simp only [List.getElem_toArray, List.getElem_cons_succ, List.getElem_cons_zero, Act.put, List.setIfInBounds_toArray, List.set_cons_zero, List.set_cons_succ]
    refine wpAnyK_tail 3 rfl (by kernel_rfl) ?_
    simp only [List.drop_succ_cons, List.drop_zero]
    have r4 := (r4.keep k4).keep (hk5.trans (h0.trans k6))
    go_wp2_with (go_at_call 8; refine (eqConsole_same _ _ t d p n w6 r4 r6).mono ?_; rintro e w7 ⟨rfl, hk7⟩)
    go_ret
    exact ⟨rfl, k0.trans (kB.trans (h0.trans (k6.trans hk7)))⟩
  · have E1 : Hid (szCo m f rn d p 1048576 = -1) := Lib.hid (by
      unfold szCo
      by_cases h1 : (m : Int) + totN f m + rn ≤ 1048576
      · have e : szTo m f rn 1048576 = 1048576 - m - totN f m - rn := by unfold szTo; rw [if_pos h1]
        rw [e]
        split
        · rfl
        · rw [if_neg (fun h2 => hfit ⟨by omega, h2⟩)]
      · have e : szTo m f rn 1048576 = -1 := by unfold szTo; rw [if_neg h1]
        rw [e, if_pos (by decide)])
    rw [E1.out] at q0
    clear hfit h hr hf
    obtain ⟨c0, c1, c2, c3, c4, c5, fr⟩ := bx
    go_enter Tryz.func3, Tryz.ntmps3
    go_wp2_with (go_at_call 4; refine (q0.out).mono ?_; rintro e w1 ⟨rfl, hk1⟩)
    go_ret
    exact ⟨rfl, k0.trans hk1⟩
end Go.Proofs.YtmnohickmidfkaaGreatDoor
