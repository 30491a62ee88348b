import Derived.Test.YtdgcohoneijleaaGreatPa
/- valid metrics, both sides -/
namespace Go.Proofs.YtdgcohoneijleaaGreat
open Go.RowKit

theorem cfTable (x c0 : Value) (w : World) : (callFunc 86 #[x, c0]).run Tryz.prog w = .ok (.enter 86 #[x, c0]) w := by kernel_rfl
set_option maxHeartbeats 400000 in
theorem isTable1_any (a : Option Addr) (m c : Nat) (n : Int) (b : Nat) (w : World) (h : w.cell? ⟨b, 0, none⟩ = some (.int .i64 n)) :
    Calls Tryz.prog 86 #[.slice a m c, .pointer (some ⟨b, 0, none⟩)] w (Ret fun r w' => r = .bool (!((m : Int) == n)) ∧ Chg No w w') := by
  go_enter Tryz.func86, Tryz.ntmps86
  go_wp2_with fail
  go_ret
  exact ⟨_, rfl, rfl, Chg.refl _ _⟩
theorem okT_yy (d : List (List Int)) (x y : Nat) : okT d x y ↔ cellA d x y = cellA d y x ∧ (x = y → cellA d x y = 0) ∧ (x ≠ y → 1 ≤ cellA d x y ∧ cellA d x y ≤ 99) := Iff.rfl
theorem RII.at0 {A : Nat → Prop} {w : World} {a : Option Addr} {n cap : Nat} {ll : List (List Int)} (h : RII A w (.slice a n cap) ll) (h0 : 0 < ll.length) : ∃ b off, a = some ⟨b, off, none⟩ := by
  obtain ⟨b, off, _, _, e, _⟩ := h.row h0
  exact ⟨b, off, e⟩
/-- a cell of a table of which a row is open -/
theorem RII.at2 {A : Nat → Prop} {w : World} {b off n cap : Nat} {d : List (List Int)} (h : RII A w (.slice (some ⟨b, off, none⟩) n cap) d) {x : Nat} (hx : x < d.length) {m : Nat} (hm : (d.getD x []).length = m) (h0 : 0 < m) :
    ∃ b' off' xc, w.cell? ⟨b, off + x, none⟩ = some (.slice (some ⟨b', off', none⟩) m xc) ∧ ∀ y, y < m → w.cell? ⟨b', off' + y, none⟩ = some (.int .i64 (cellA d x y)) := by
  obtain ⟨_, _, xa, xc, e, _, hc, hr⟩ := h.row hx
  cases e
  subst hm
  obtain ⟨b', off', rfl, _, _⟩ := hr.cellN h0
  refine ⟨b', off', xc, hc, fun y hy => ?_⟩
  obtain ⟨b2, off2, e, _, h2⟩ := hr.cellN hy
  cases e
  exact h2
set_option maxRecDepth 100000 in
set_option maxHeartbeats 2000000 in
theorem isTable_any (A : Nat → Prop) (v : Value) (d : List (List Int)) (w : World) (h : RII A w v d) :
    Calls Tryz.prog 65 #[.agg #[v], .bool false] w (Ret fun r w' => r = .bool (bP (TabP d)) ∧ Chg No w w') := by
  have hv := h
  obtain ⟨a, cap, rfl, hc1, hc2, hx⟩ := h.view
  clear h hx
  have hl0 : (0 : Int) ≤ (d.length : Int) := Int.natCast_nonneg _
  go_enter Tryz.func65, Tryz.ntmps65
  go_wp2_with fail
  refine bx2 (R := fun W => Calls _ _ _ W _) (fun W0 k0 b0 b1 => ?_)
  refine (within_any _ _ _ _).mono ?_
  rintro e w1 ⟨rfl, rfl⟩
  have g0 := b0.c 0 _ rfl
  have g1 := b1.c 0 _ rfl
  cases h6 : inB (d.length : Int) 1 6
  · have H : Hid (bP (TabP d) = false) := Lib.hid (bP_no (fun h => by
      obtain ⟨h1, h2⟩ := h.1
      rw [inB_iff.2 ⟨by omega, by omega⟩] at h6; cases h6))
    clear h6
    go_wp2_with fail
    go_ret
    exact ⟨_, rfl, by rw [H.out]; rfl, k0⟩
  · have h6' := inB_iff.1 h6
    have hn6 : d.length ≤ 6 := by omega
    have hn1 : 0 < d.length := by omega
    obtain ⟨tb, tf, rfl⟩ := hv.at0 hn1
    go_wp2_with fail
    refine (ContainsFuncR_any A _ d W0 (hv.keep k0) _ _ (fun l => !((l.length : Int) == (d.length : Int))) (fun x w => cfTable x _ w) (fun i xv W hi hW hr => ?_)).mono ?_
    · obtain ⟨xa, xc, rfl, _⟩ := hr
      exact isTable1_any _ _ _ _ _ _ ((b1.keep hW).c 0 _ rfl)
    rintro e w2 ⟨_, rfl, rfl, k2⟩
    have kk := k0.keep k2
    have g0 := (b0.keep k2).c 0 _ rfl
    have g1 := (b1.keep k2).c 0 _ rfl
    have hv2 := hv.keep kk
    cases hr : d.any fun l => !((l.length : Int) == (d.length : Int))
    · have HR : Hid (∀ x, x < d.length → (d.getD x []).length = d.length) := Lib.hid (fun x hx => by
        refine Classical.byContradiction fun e => ?_
        rw [(any_getD d [] _).2 ⟨x, hx, by rw [Bool.not_eq_true']; exact beq_eq_false_iff_ne.2 (fun h => e (by omega))⟩] at hr; cases hr)
      clear hr h6
      go_wp2_with fail
      go_loop [22] (fun z => ∃ x : Nat, x ≤ d.length ∧ z = .int .i64 (x : Int) ∧ Hid (Bef d.length (okT d) x 0)) (fun z => d.length - (intOf z).toNat)
      case atStart => exact ⟨0, Nat.zero_le _, rfl, Lib.hid Bef.zero⟩
      case round =>
        obtain ⟨x, hx, rfl, HB⟩ := hrel
        have hx0 : (0 : Int) ≤ (x : Int) := Int.natCast_nonneg _
        by_cases hlt : x < d.length
        · have hx1 : (x : Int) < (d.length : Int) := by omega
          have hwx : IntKind.i64.wrap ((x : Int) + 1) = (x : Int) + 1 := IntWalk.i64_in _ (by omega)
          obtain ⟨xb, xo, xc, hcx, hdx⟩ := hv2.at2 hlt (HR.out x hlt) hn1
          go_wp2_with fail
          go_loop [31] (fun z => ∃ y : Nat, y ≤ d.length ∧ z = .int .i64 (y : Int) ∧ Hid (Bef d.length (okT d) x y)) (fun z => d.length - (intOf z).toNat)
          case atStart => exact ⟨0, Nat.zero_le _, rfl, HB⟩
          case round =>
            obtain ⟨y, hy, rfl, HC⟩ := hrel
            have hy0 : (0 : Int) ≤ (y : Int) := Int.natCast_nonneg _
            by_cases hlty : y < d.length
            · have hy1 : (y : Int) < (d.length : Int) := by omega
              have hwy : IntKind.i64.wrap ((y : Int) + 1) = (y : Int) + 1 := IntWalk.i64_in _ (by omega)
              obtain ⟨yb, yo, yc, hcy, hdy⟩ := hv2.at2 hlty (HR.out y hlty) hn1
              have hxy := hdx y hlty
              have hyx := hdy x hlt
              have HT := Lib.hid (okT_yy d x y)
              obtain ⟨e, he⟩ : ∃ e, cellA d x y = e := ⟨_, rfl⟩
              obtain ⟨f, hf⟩ : ∃ f, cellA d y x = f := ⟨_, rfl⟩
              rw [he, hf] at HT
              rw [he] at hxy
              rw [hf] at hyx
              have HN : okT d x y → Hid (Bef d.length (okT d) x (y + 1)) := fun h => Lib.hid (HC.out.next h)
              have HQ : ¬ okT d x y → Hid (bP (TabP d) = false) := fun h => Lib.hid (bP_no (fun ht => h (ht.2.2 x y hlt hlty)))
              by_cases hxye : x = y
              · subst hxye
                obtain rfl : e = f := he.symm.trans hf
                by_cases he0 : e = 0
                · have HN := HN (HT.out.2 ⟨rfl, fun _ => he0, fun h => absurd rfl h⟩)
                  clear HQ he hf hdx hdy
                  subst he0
                  go_wp2_with fail
                  go_round
                  case rel => exact ⟨x + 1, by omega, by go_num, HN⟩
                  case measure => simp [intOf]; omega
                · have HQ := HQ (fun h => he0 ((HT.out.1 h).2.1 rfl))
                  clear HN he hf hdx hdy
                  go_wp2_with fail
                  go_ret
                  exact ⟨_, rfl, by rw [HQ.out]; rfl, kk⟩
              · have hne : ¬ ((x : Int) = (y : Int)) := by omega
                by_cases hef : e = f
                · subst hef
                  by_cases h99 : e ≤ 99
                  · by_cases h1 : 1 ≤ e
                    · have HN := HN (HT.out.2 ⟨rfl, fun h => absurd h hxye, fun _ => ⟨h1, h99⟩⟩)
                      have h1' : ¬ e < 1 := by omega
                      have h99' : ¬ 99 < e := by omega
                      clear HQ he hf hdx hdy
                      go_wp2_with fail
                      go_round
                      case rel => exact ⟨y + 1, by omega, by go_num, HN⟩
                      case measure => simp [intOf]; omega
                    · have HQ := HQ (fun h => h1 ((HT.out.1 h).2.2 hxye).1)
                      have h1' : e < 1 := by omega
                      have h99' : ¬ 99 < e := by omega
                      clear HN he hf hdx hdy
                      go_wp2_with fail
                      go_ret
                      exact ⟨_, rfl, by rw [HQ.out]; rfl, kk⟩
                  · have HQ := HQ (fun h => h99 ((HT.out.1 h).2.2 hxye).2)
                    have h99' : 99 < e := by omega
                    clear HN he hf hdx hdy
                    go_wp2_with fail
                    go_ret
                    exact ⟨_, rfl, by rw [HQ.out]; rfl, kk⟩
                · have HQ := HQ (fun h => hef (HT.out.1 h).1)
                  clear HN he hf hdx hdy
                  go_wp2_with fail
                  go_ret
                  exact ⟨_, rfl, by rw [HQ.out]; rfl, kk⟩
            · have hye : y = d.length := by omega
              subst hye
              go_wp2_with fail
              go_round
              case rel => exact ⟨x + 1, by omega, by go_num, Lib.hid HC.out.row⟩
              case measure => simp [intOf]; omega
        · have hxe : x = d.length := by omega
          subst hxe
          go_wp2_with fail
          go_ret
          exact ⟨_, rfl, by rw [bP_yes ⟨⟨hn1, hn6⟩, HR.out, HB.out.all⟩]; rfl, kk⟩
    · have H : Hid (bP (TabP d) = false) := Lib.hid (bP_no (fun h => by
        obtain ⟨i, hi, hp⟩ := (any_getD d [] _).1 hr
        rw [h.2.1 i hi] at hp; simp at hp))
      clear hr
      go_wp2_with fail
      go_ret
      exact ⟨_, rfl, by rw [H.out]; rfl, kk⟩
end Go.Proofs.YtdgcohoneijleaaGreat
