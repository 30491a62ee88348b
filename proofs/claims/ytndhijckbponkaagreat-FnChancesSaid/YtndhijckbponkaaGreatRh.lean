import Derived.Test.YtndhijckbponkaaGreatRc
import Derived.ChangeKeysEq
/- an algorithm drawn -/
namespace Go.Proofs.YtndhijckbponkaaGreat
open Go.RowKit

theorem RPr.weakA {A B : Nat → Prop} {w : World} {v : Value} {P : Pr} (h : RPr A w v P) (hB : ∀ k, B k → k < w.heap.size → A k) : RPr B w v P := by
  obtain ⟨m, s, rfl, h1, h2⟩ := h
  exact ⟨m, s, rfl, h1.weak hB, h2.weak hB⟩
structure AlD (b B K R0 : Nat) (w W : World) (mv sv : Value) (m s : List (List Int)) (ov : Value) (nx : List (List Int)) (F : Nat → Prop) : Prop where
  cur : Cur W b B K
  chg : Chg (fun q => q = b) w W
  bx : BoxN W R0 [mv, sv]
  oo : OII (R0 + 1) W ov nx F
  pr : RPr (fun q => q = b ∨ R0 < q) W (.agg #[mv, sv]) ⟨m, s⟩
  lt : b < B ∧ B ≤ R0
  sz : w.heap.size = R0
section
variable {b B K K' R0 : Nat} {w W W' : World} {mv sv ov : Value} {m s nx : List (List Int)} {F : Nat → Prop}
theorem AlD.call (h : AlD b B K R0 w W mv sv m s ov nx F) (hc : Cur W' b B K') (hk : Chg (fun q => q = b) W W') : AlD b B K' R0 w W' mv sv m s ov nx F := by
  have hl := h.lt
  exact ⟨hc, h.chg.trans hk, h.bx.step hk (by omega), h.oo.step hk (fun q hq e => by have := (h.oo.lt q hq).1; omega), h.pr.step hk (fun q e => .inl e), h.lt, h.sz⟩
theorem AlD.keep (h : AlD b B K R0 w W mv sv m s ov nx F) (hk : Chg No W W') : AlD b B K R0 w W' mv sv m s ov nx F :=
  h.call (h.cur.keep hk) ((Chg.refl (fun q => q = b) W).step hk (fun _ e _ => e.elim))
theorem AlD.more (h : AlD b B K R0 w W mv sv m s ov nx F) (hK : K ≤ K') : AlD b B K' R0 w W mv sv m s ov nx F := ⟨h.cur.more hK, h.chg, h.bx, h.oo, h.pr, h.lt, h.sz⟩
theorem AlD.far (h : AlD b B K R0 w W mv sv m s ov nx F) {T : Nat → Prop} {Z : Nat} (k : Chg T W W') (hT : ∀ q, T q → Z ≤ q) (hF : ∀ q, F q → q < Z) (hZ : R0 < Z) : AlD b B K R0 w W' mv sv m s ov nx F := by
  have hl := h.lt
  exact ⟨h.cur.step k (fun q e => by have := hT q e; omega), h.chg.step k (fun q e hlt => by have := hT q e; have := h.sz; omega), h.bx.step k (fun e => by have := hT _ e; omega), h.oo.step k (fun q hq e => by have := hF q hq; have := hT q e; omega),
    h.pr.step k (fun q e => .inr (by have := hT q e; omega)), h.lt, h.sz⟩
/-- another table -/
theorem AlD.tab (h : AlD b B K R0 w W mv sv m s ov nx F) {T : Nat → Prop} {v' : Value} {nx' : List (List Int)} {F3 : Nat → Prop} (h3 : OII (R0 + 1) W' v' nx' F3) (k : Chg T W W') (hT : ∀ q, T q → R0 < q) : AlD b B K R0 w W' mv sv m s v' nx' F3 := by
  have hl := h.lt
  exact ⟨h.cur.step k (fun q e => by have := hT q e; omega), h.chg.step k (fun q e hlt => by have := hT q e; have := h.sz; omega), h.bx.step k (fun e => by have := hT _ e; omega), h3, h.pr.step k (fun q e => .inr (hT q e)), h.lt, h.sz⟩
theorem AlD.rows (h : AlD b B K R0 w W mv sv m s ov nx F) : RII (fun q => q = b ∨ R0 < q) W mv m ∧ RII (fun q => q = b ∨ R0 < q) W sv s := by
  obtain ⟨a, c, e, h1, h2⟩ := h.pr
  simp only [Value.agg.injEq, Array.mk.injEq, List.cons.injEq, and_true] at e
  obtain ⟨rfl, rfl⟩ := e
  exact ⟨h1, h2⟩
theorem AlD.fin (h : AlD b B K R0 w W mv sv m s ov nx F) : RII (fun q => q < w.heap.size) W ov nx := h.oo.read (fun q hq e => by have := (h.oo.lt q hq).1; have := h.sz; have e : q < w.heap.size := e; omega)
end
theorem RII.from1 {A : Nat → Prop} {w : World} {a : Option Addr} {cap : Nat} {ll : List (List Int)} (h : RII A w (.slice a ll.length cap) ll) (hl : 1 ≤ ll.length) :
    ∃ a' c', (∀ w' : World, (Instr.slice 24 (.slice a ll.length cap) (some (.int .i64 1)) none none).run Tryz.prog w' = .ok (.slice a' (ll.length - 1) c') w') ∧ RII A w (.slice a' (ll.length - 1) c') (ll.drop 1) := by
  obtain ⟨h0, vs, h1, h2, h3⟩ := h
  obtain ⟨a', c', h4, h5⟩ := RF.from 24 (by kernel_rfl) (fun w => by kernel_rfl) h2 1 hl
  have hd : (ll.drop 1).length = ll.length - 1 := List.length_drop
  refine ⟨a', c', h4, by rw [hd]; omega, vs.drop 1, by rw [List.length_drop, hd, h1], by rw [hd]; simpa using h5, fun i hi => ?_⟩
  rw [hd] at hi
  have := h3 (1 + i) (by omega)
  rwa [List.getD_eq_getElem?_getD, List.getD_eq_getElem?_getD, ← List.getElem?_drop, ← List.getElem?_drop, ← List.getD_eq_getElem?_getD, ← List.getD_eq_getElem?_getD] at this
set_option maxRecDepth 100000 in
set_option maxHeartbeats 4000000 in
theorem algorithm_any (b B K : Nat) (v : Value) (P : Pr) (w : World) (h : Cur w b B K) (hB : B ≤ w.heap.size) (hP : RPr (fun q => q = b) w v P) (hm : P.mv.length ≤ 8) (hs : P.sv.length ≤ 40) (hK : K ≤ 600000000) :
    Calls Tryz.prog 34 #[.pointer (some ⟨b, 0, none⟩), v] w fun e w' => ∃ (nv : Value) (nx : List (List Int)), e = .returned nv ∧ RII (fun q => q < w.heap.size) w' nv nx ∧ nx.length ≤ 8 ∧ Cur w' b B (K + 1000) ∧ Chg (fun q => q = b) w w' := by
  obtain ⟨m, s⟩ := P
  obtain ⟨mv, sv, rfl, hmv, hsv⟩ := id hP
  obtain ⟨ma, mc, rfl⟩ := hmv.shape
  obtain ⟨sa, sc, rfl⟩ := hsv.shape
  have hb := h.lt
  have hbB := h.ltB
  dsimp only at hm hs hmv hsv ⊢
  clear hmv hsv
  have b0 := BoxN.new w #[.slice ma m.length mc, .slice sa s.length sc] 26
  have k0 := (Chg.refl No w).alloc (.cells #[.slice ma m.length mc, .slice sa s.length sc] 26)
  have z0 : (w.alloc (.cells #[.slice ma m.length mc, .slice sa s.length sc] 26)).heap.size = w.heap.size + 1 := World.size_alloc _ _
  obtain ⟨R0, hR0⟩ : ∃ R, w.heap.size = R := ⟨_, rfl⟩
  rw [hR0] at b0 z0
  obtain ⟨W0, hW0⟩ : ∃ W, w.alloc (.cells #[.slice ma m.length mc, .slice sa s.length sc] 26) = W := ⟨_, rfl⟩
  rw [hW0] at b0 k0 z0
  have k1 := (Chg.refl No W0).alloc (.cells #[] 27)
  have oz := OII.zero (base := R0 + 1) (w := W0) (Nat.le_of_eq z0.symm)
  rw [z0] at oz
  have hD : AlD b B K R0 w (W0.alloc (.cells #[] 27)) (.slice ma m.length mc) (.slice sa s.length sc) m s (.slice (some ⟨R0 + 1, 0, none⟩) 0 0) [] (fun q => q = R0 + 1) :=
    ⟨(h.keep k0).keep k1, ((Chg.refl (fun q => q = b) w).step k0 (fun _ e _ => e.elim)).step k1 (fun _ e _ => e.elim), b0.keep k1, oz, ((hP.weakA (fun q e hlt => by
      rcases e with e | e
      · exact e
      · omega)).keep k0).keep k1, by omega, hR0⟩
  have hN0 : (0 : Int) ≤ (m.length : Int) := Int.natCast_nonneg _
  have hM0 : (0 : Int) ≤ (s.length : Int) := Int.natCast_nonneg _
  have HR0 := Lib.hid hR0
  clear hP h hB b0 k0 k1 oz
  go_enter Tryz.func34, Tryz.ntmps34
  go_wp2_with fail
  generalize W0.alloc _ = W1 at hD ⊢
  clear hW0 hR0 z0
  have HK := Lib.hid (And.intro hK (And.intro hm hs))
  have hM40 : s.length ≤ 40 := hs
  have hN8 : m.length ≤ 8 := hm
  clear hm hs hb hK
  go_loopw [5, 6] (fun o z wr => ∃ (i : Nat) (nx : List (List Int)) (F : Nat → Prop), i ≤ m.length ∧ z = .int .i64 (i : Int) ∧ Hid (nx.length = i) ∧ Hid (∀ j, j < nx.length → (nx.getD j []).length = s.length) ∧ AlD b B (K + 80 * i) R0 w wr (.slice ma m.length mc) (.slice sa s.length sc) m s o nx F) (fun _ z _ => m.length - (intOf z).toNat)
  case atStart => exact ⟨0, [], _, Nat.zero_le _, rfl, Lib.hid rfl, Lib.hid (fun j hj => absurd hj (Nat.not_lt_zero j)), hD⟩
  case round =>
    clear hD
    obtain ⟨i, nx, F, hi, rfl, HNX, HNL, hD⟩ := hrel
    have hi0 : (0 : Int) ≤ (i : Int) := Int.natCast_nonneg _
    have e0 := hD.bx.c 0 _ rfl
    have e1 := hD.bx.c 1 _ rfl
    obtain ⟨oa, oc, rfl⟩ := hD.oo.readNo.shape
    rw [HNX.out] at hD ⊢
    by_cases hlt : i < m.length
    · have hi1 : (i : Int) < (m.length : Int) := by omega
      have hwi : IntKind.i64.wrap ((i : Int) + 1) = (i : Int) + 1 := IntWalk.i64_in _ (by omega)
      have hmp : (0 : Int) < (m.length : Int) := by omega
      obtain ⟨Z0, hZ0⟩ : ∃ Z, wr.heap.size = Z := ⟨_, rfl⟩
      have ho0 : OI Z0 (wr.alloc (.cells #[] 3)) (.slice (some ⟨Z0, 0, none⟩) 0 0) [] := by
        have := OI.zero (base := Z0) (w := wr) (Nat.le_of_eq hZ0.symm)
        rwa [hZ0] at this
      have hRZ : R0 < Z0 := by have := hD.bx.lt; omega
      have HFZ : Hid (∀ q, F q → q < Z0) := Lib.hid (fun q hq => by have := (hD.oo.lt q hq).2; omega)
      have HZ1 : Hid (Z0 ≤ (wr.alloc (.cells #[] 3)).heap.size) := Lib.hid (by rw [World.size_alloc]; omega)
      have hD1 := hD.keep ((Chg.refl No wr).alloc (.cells #[] 3))
      clear hD
      go_wp2_with fail
      clear hZ0 e0 e1
      go_loopw [7, 8] (fun o z wi => ∃ (r : Nat) (l : List Int), r ≤ s.length ∧ z = .int .i64 (r : Int) ∧ Hid (l.length = r) ∧ Z0 ≤ wi.heap.size ∧ OI Z0 wi o l ∧ AlD b B (K + 80 * i + 2 * r) R0 w wi (.slice ma m.length mc) (.slice sa s.length sc) m s (.slice oa i oc) nx F) (fun _ z _ => s.length - (intOf z).toNat)
      case atStart => exact ⟨0, [], Nat.zero_le _, rfl, Lib.hid rfl, HZ1.out, ho0, hD1⟩
      case round =>
        clear ho0 hD1 HZ1
        obtain ⟨r, l, hr, rfl, HLR, hzw, ho, hD⟩ := hrel
        have hr0 : (0 : Int) ≤ (r : Int) := Int.natCast_nonneg _
        have e0 := hD.bx.c 0 _ rfl
        have e1 := hD.bx.c 1 _ rfl
        obtain ⟨la, lc, rfl, _⟩ := ho.view
        rw [HLR.out] at ho ⊢
        by_cases hrt : r < s.length
        · have hr1 : (r : Int) < (s.length : Int) := by omega
          have hwr : IntKind.i64.wrap ((r : Int) + 1) = (r : Int) + 1 := IntWalk.i64_in _ (by omega)
          go_wp2_with fail
          refine (pick_any b B (K + 80 * i + 2 * r) (m.length : Int) wr hD.cur (by have := HK.out; omega) (by omega)).mono ?_
          rintro e w9 ⟨y9, rfl, hy0, hy1, hy2, hc9, k9⟩
          obtain ⟨x, rfl⟩ : ∃ x : Nat, y9 = (x : Int) := ⟨y9.toNat, by omega⟩
          have hxN : x < m.length := by
            by_cases e : (1 : Int) < (m.length : Int)
            · have := hy1 e; omega
            · have := hy2 (by omega); omega
          have ho9 := ho.step k9 (fun q hq e => by have := (ho.lt q hq).1; have := hD.lt; omega)
          have hz9 : Z0 ≤ w9.heap.size := Nat.le_trans hzw k9.size
          replace hD := (hD.call hc9 k9).more (show _ ≤ K + 80 * i + 2 * (r + 1) by omega)
          obtain ⟨sb, so, ta, tc, rfl, hsb, hcs, htr⟩ := hD.rows.2.row hrt
          obtain ⟨row, hrow⟩ : ∃ row, s.getD r [] = row := ⟨_, rfl⟩
          rw [hrow] at hcs htr
          clear hrow
          clear ho hzw hc9 k9 hy0 hy1 hy2 e0 e1
          go_wp2_with fail
          go_loopw [9, 10] (fun t z wi => ∃ (k x : Nat), k ≤ m.length ∧ x < m.length ∧ t = .int .i64 (x : Int) ∧ z = .int .i64 (k : Int) ∧ wi = w9) (fun _ z _ => m.length - (intOf z).toNat)
          case atStart => exact ⟨0, x, Nat.zero_le _, hxN, rfl, rfl, rfl⟩
          case round =>
            clear hxN
            obtain ⟨k, x2, hk, hxN, rfl, rfl, rfl⟩ := hrel
            have hk0 : (0 : Int) ≤ (k : Int) := Int.natCast_nonneg _
            have hx0 : (0 : Int) ≤ (x2 : Int) := Int.natCast_nonneg _
            have e0 := hD.bx.c 0 _ rfl
            have e1 := hD.bx.c 1 _ rfl
            have hl9 : l.length < 17592186044416 := by have := HLR.out; omega
            by_cases hkt : k < m.length
            · have hk1 : (k : Int) < (m.length : Int) := by omega
              have hwk : IntKind.i64.wrap ((k : Int) + 1) = (k : Int) + 1 := IntWalk.i64_in _ (by omega)
              have hmz : ¬ (m.length : Int) = 0 := by omega
              have hwx : IntKind.i64.wrap ((x2 : Int) + 1) = (x2 : Int) + 1 := IntWalk.i64_in _ (by omega)
              obtain ⟨X3, hX3⟩ : ∃ X3, (x2 + 1) % m.length = X3 := ⟨_, rfl⟩
              have htm : ((x2 : Int) + 1).tmod (m.length : Int) = (X3 : Int) := by
                rw [← hX3, Int.tmod_eq_emod_of_nonneg (by omega)]; push_cast; rfl
              have hX3l : X3 < m.length := by rw [← hX3]; exact Nat.mod_lt _ (by omega)
              have hwX : IntKind.i64.wrap (X3 : Int) = (X3 : Int) := IntWalk.i64_in _ (by omega)
              clear hX3
              by_cases hxL : x2 < row.length
              · have hxL1 : (x2 : Int) < (row.length : Int) := by omega
                have hxL2 : ¬ (row.length : Int) ≤ (x2 : Int) := by omega
                obtain ⟨tb, tf, rfl, htb, hct⟩ := htr.cellN hxL
                obtain ⟨y, hy⟩ : ∃ y, row.getD x2 0 = y := ⟨_, rfl⟩
                rw [hy] at hct
                clear hy
                by_cases hyn : y < 0
                · go_wp2_with fail
                  go_round
                  case rel => exact ⟨k + 1, X3, hkt, hX3l, rfl, by go_num, by first | rfl | trivial⟩
                  case measure => simp [intOf]; omega
                · skip
                  go_wp2_with (at_builtin; refine wapp1 rfl (.tmp 66) (.tmp 68) rfl ho9 rfl rfl hl9 hz9 ?_)
                  intro v2 w10 h2 k2 f2
                  have hD2 := hD.far k2 (fun q hq => (ho9.lt q hq).1) HFZ.out hRZ
                  have hz2 : Z0 ≤ w10.heap.size := Nat.le_trans hz9 k2.size
                  obtain ⟨a2, c2, rfl, _⟩ := h2.view
                  have hn2 : (l ++ [(x2 : Int)]).length = r + 1 := by rw [List.length_append, HLR.out]; rfl
                  have HN2 := Lib.hid hn2
                  rw [hn2] at h2 ⊢
                  clear hD ho9 k2 f2 hz9 hn2 e0 e1
                  go_wp2_with fail
                  go_round
                  case rel => exact ⟨r + 1, l ++ [(x2 : Int)], hrt, by go_num, HN2, hz2, h2, hD2⟩
                  case measure => simp [intOf]; omega
              · have hxL1 : ¬ (x2 : Int) < (row.length : Int) := by omega
                have hxL2 : (row.length : Int) ≤ (x2 : Int) := by omega
                go_wp2_with fail
                go_round
                case rel => exact ⟨k + 1, X3, hkt, hX3l, rfl, by go_num, by first | rfl | trivial⟩
                case measure => simp [intOf]; omega
            · have hk1 : ¬ (k : Int) < (m.length : Int) := by omega
              go_wp2_with (at_builtin; refine wapp1 rfl (.tmp 66) (.tmp 68) rfl ho9 rfl rfl hl9 hz9 ?_)
              intro v2 w10 h2 k2 f2
              have hD2 := hD.far k2 (fun q hq => (ho9.lt q hq).1) HFZ.out hRZ
              have hz2 : Z0 ≤ w10.heap.size := Nat.le_trans hz9 k2.size
              obtain ⟨a2, c2, rfl, _⟩ := h2.view
              have hn2 : (l ++ [(x2 : Int)]).length = r + 1 := by rw [List.length_append, HLR.out]; rfl
              have HN2 := Lib.hid hn2
              rw [hn2] at h2 ⊢
              clear hD ho9 k2 f2 hz9 hn2 e0 e1
              go_wp2_with fail
              go_round
              case rel => exact ⟨r + 1, l ++ [(x2 : Int)], hrt, by go_num, HN2, hz2, h2, hD2⟩
              case measure => simp [intOf]; omega
        · have hre : r = s.length := by omega
          have HRE := Lib.hid hre
          have hlen : nx.length < 1099511627776 := by have := HNX.out; omega
          have hbz : R0 + 1 ≤ wr.heap.size := by omega
          have hd1 : ∀ q, own (Value.slice la r lc) q → ¬ F q := fun q hq e => by have := (ho.lt q hq).1; have := HFZ.out q e; omega
          have hoX := ho.weak (show R0 + 1 ≤ Z0 by omega)
          have hr1 : ¬ (r : Int) < (s.length : Int) := by omega
          have hoo := hD.oo
          clear hre
          go_wp2_with (at_builtin; refine wappR rfl (.tmp 70) (.tmp 72) rfl hoo hoX hd1 rfl rfl hlen hbz ?_)
          intro v3 w7 F3 h3 k3 hF3 hFo
          have hN := hD.tab h3 k3 (fun q hq => by have := (hD.oo.lt q (hFo q hq)).1; omega)
          obtain ⟨v3a, v3c, rfl⟩ := h3.readNo.shape
          have hL1 : (nx ++ [l]).length = i + 1 := by rw [List.length_append, HNX.out]; rfl
          rw [hL1] at hN ⊢
          have HN := Lib.hid hN
          have HSL := Lib.hid hL1
          clear hN h3 k3 hF3 hFo hD ho hoo hL1 hoX hd1 e0 e1
          go_wp2_with fail
          go_round
          case rel => exact ⟨i + 1, nx ++ [l], F3, by omega, by go_num, HSL, Lib.hid (rows_snoc (by rw [List.length_append]; rfl) HNL.out (by rw [HLR.out]; exact HRE.out)), HN.out.more (by omega)⟩
          case measure => simp [intOf]; omega
    · have hie : i = m.length := by omega
      subst hie
      replace hD := hD.more (show _ ≤ K + 800 by omega)
      have hK9 := HK.out.1
      by_cases hmp : 0 < m.length
      · have hmp1 : (0 : Int) < (m.length : Int) := by omega
        have hnp : 0 < nx.length := by have := HNX.out; omega
        have hr0l := HNL.out 0 hnp
        obtain ⟨g, gc, x0, hv, hgc, hgf, hx0, hxF, hxg, hFg, hput⟩ := hD.oo.putGrow hnp
        simp only [Value.slice.injEq] at hv
        obtain ⟨rfl, hnn, rfl⟩ := hv
        clear hnn
        obtain ⟨ra, rc, rfl, _⟩ := hx0.view
        have hgl := (hD.oo.lt g hFg)
        have hgR : ¬ g = b ∧ ¬ R0 = g ∧ ¬ g = R0 := by have := hD.lt; omega
        obtain ⟨hgb, hgR1, hgR2⟩ := hgR
        rw [hr0l] at hgc hx0 hxF hxg hput
        by_cases hsp : 0 < s.length
        · have hsp1 : (0 : Int) < (s.length : Int) := by omega
          go_wp2_with fail
          refine (pick_any b B (K + 800) 24 wr hD.cur (by omega) (by omega)).mono ?_
          rintro e w7 ⟨x, rfl, _, _, _, hc7, k7⟩
          replace hD := hD.call hc7 k7
          have hgc7 := (k7.cellD g 0 hgl.2 hgb).trans hgc
          by_cases h0 : x = 0
          · subst h0
            have hDl := hD.lt
            clear hput hx0 hxF hxg hgc hgf k7 hc7
            go_wp2_with fail
            refine wp_region_K (S := fun W => W.cell? ⟨g, 0, none⟩ = some (.slice ra s.length rc) ∧ W.cell? ⟨R0, 0, none⟩ = some (.slice ma m.length mc)) (k := 9) (by kernel_rfl) ?_
            replace hD := hD.keep (drewN0 _)
            have hgc8 : (World.drew w7).cell? ⟨g, 0, none⟩ = some (.slice ra s.length rc) := ((drewN0 w7).cellD g 0 (World.block_lt_of_cell? _ _ hgc7) (fun e => e)).trans hgc7
            clear hgc7
            generalize World.drew w7 = WQ at hD hgc8 ⊢
            have hS : WQ.cell? ⟨g, 0, none⟩ = some (.slice ra s.length rc) ∧ WQ.cell? ⟨R0, 0, none⟩ = some (.slice ma m.length mc) := ⟨hgc8, hD.bx.c 0 _ rfl⟩
            refine wpAnyK_take0 0 (.slice (some ⟨g, 0, none⟩) m.length oc) rfl (by kernel_rfl) (fun _ _ _ h => h) hS rfl (by intro w; go_simp) ?_
            simp only [List.getElem_toArray, List.getElem_cons_zero, Act.put, List.setIfInBounds_toArray, List.set_cons_zero, List.set_cons_succ]
            refine wpAnyK_take0 1 (.pointer (some ⟨g, 0, none⟩)) rfl (by kernel_rfl) (fun _ _ _ h => h) hS rfl (by intro w; go_simp) ?_
            simp only [List.getElem_toArray, List.getElem_cons_succ, List.getElem_cons_zero, Act.put, List.setIfInBounds_toArray, List.set_cons_zero, List.set_cons_succ]
            refine wpAnyK_take 2 (.slice ra s.length rc) rfl (by kernel_rfl) (fun _ _ _ h => h) hS rfl (by intro w hSw; go_simp) ?_
            simp only [List.getElem_toArray, List.getElem_cons_succ, List.getElem_cons_zero, Act.put, List.setIfInBounds_toArray, List.set_cons_zero, List.set_cons_succ]
            refine wpAnyK_take0 3 (.pointer (some ⟨b, 0, none⟩)) rfl (by kernel_rfl) (fun _ _ _ h => h) hS rfl (by intro w; go_simp) ?_
            simp only [List.getElem_toArray, List.getElem_cons_succ, List.getElem_cons_zero, Act.put, List.setIfInBounds_toArray, List.set_cons_zero, List.set_cons_succ]
            refine wpAnyK_take0 4 (.pointer (some ⟨R0, 0, none⟩)) rfl (by kernel_rfl) (fun _ _ _ h => h) hS rfl (by intro w; go_simp) ?_
            simp only [List.getElem_toArray, List.getElem_cons_succ, List.getElem_cons_zero, Act.put, List.setIfInBounds_toArray, List.set_cons_zero, List.set_cons_succ]
            refine wpAnyK_take 5 (.slice ma m.length mc) rfl (by kernel_rfl) (fun _ _ _ h => h) hS rfl (by intro w hSw; go_simp) ?_
            simp only [List.getElem_toArray, List.getElem_cons_succ, List.getElem_cons_zero, Act.put, List.setIfInBounds_toArray, List.set_cons_zero, List.set_cons_succ]
            refine wpAnyK_take0 6 (.int .i64 (m.length : Int)) rfl (by kernel_rfl) (fun _ _ _ h => h) hS rfl (by intro w; go_simp) ?_
            simp only [List.getElem_toArray, List.getElem_cons_succ, List.getElem_cons_zero, Act.put, List.setIfInBounds_toArray, List.set_cons_zero, List.set_cons_succ]
            refine wpAnyK_1 7 (by kernel_rfl) (wpOpK' rfl rfl ?_)
            intro K0 hK0
            have ka := (Chg.refl No WQ).alloc (.cells #[.int .i64 (-1), .int .i64 (m.length : Int), .int .i64 0] 3)
            have rl : RI (fun q => q = b) (WQ.alloc (.cells #[.int .i64 (-1), .int .i64 (m.length : Int), .int .i64 0] 3)) (.slice (some ⟨WQ.heap.size, 0, none⟩) 3 3) [-1, (m.length : Int), 0] := RI.lit (fun q => q = b) WQ [-1, (m.length : Int), 0] _ _ _ 3 3 rfl rfl rfl (Nat.le_refl _) (fun e => by have := hD.bx.lt; have e : WQ.heap.size = b := e; omega) (by simp)
            replace hD := hD.keep ka
            replace hgc8 := (ka.cellD g 0 (World.block_lt_of_cell? _ _ hgc8) (fun e => e)).trans hgc8
            unfold Oper.wp execOp
            go_simp
            refine hK0.out _ _ ⟨hgc8, hD.bx.c 0 _ rfl⟩ ?_
            clear hK0 K0 hS ka
            simp only [List.setIfInBounds_toArray]
            obtain ⟨G0, hG0⟩ : ∃ G, WQ.heap.size = G := ⟨_, rfl⟩
            rw [hG0] at rl ⊢
            clear hG0
            generalize WQ.alloc (.cells #[.int .i64 (-1), .int .i64 (m.length : Int), .int .i64 0] 3) = WQ at *
            refine wpAnyK_1 8 (by kernel_rfl) (wpOpK' rfl rfl ?_)
            intro K0 hK0
            refine ocallE (f := 76) (args := #[.pointer (some ⟨b, 0, none⟩), .slice (some ⟨G0, 0, none⟩) 3 3]) (φ := fun v W' => ∃ y : Int, v = .int .i64 y ∧ Cur W' b B (K + 800 + 2 + 2) ∧ Chg (fun q => q = b) WQ W') (by go_simp) ((among_any b B (K + 800 + 2) _ _ WQ hD.cur (by omega) rl (by simp) (by simp)).mono (fun e W' ⟨x, h1, _, h5, h6⟩ => ⟨_, h1, x, rfl, h5, h6⟩)) (fun v2 W2 h2 => hK0.out _ _ (by obtain ⟨x, _, q1, q2⟩ := h2; exact ⟨(q2.cellD g 0 (World.block_lt_of_cell? _ _ hgc8) hgb).trans hgc8, (hD.call q1 q2).bx.c 0 _ rfl⟩) ?_)
            obtain ⟨y9, rfl, hc2, k2⟩ := h2
            replace hgc8 := (k2.cellD g 0 (World.block_lt_of_cell? _ _ hgc8) hgb).trans hgc8
            replace hD := hD.call hc2 k2
            clear hK0 K0 rl hc2 k2
            simp only [List.getElem_toArray, List.getElem_cons_succ, List.getElem_cons_zero, Act.put, List.setIfInBounds_toArray, List.set_cons_zero, List.set_cons_succ]
            generalize W2 = WQ at *
            obtain ⟨g3, c3, r3, rc3, hv3, _, hrl, hgr, _, hrR, hgc3, hrc3, hrf3, _, _, hput3⟩ := hD.oo.at hnp (by rw [hr0l]; exact hsp)
            simp only [Value.slice.injEq, Option.some.injEq, Addr.mk.injEq, and_true] at hv3
            obtain ⟨rfl, hnn, rfl⟩ := hv3
            clear hnn
            rw [hr0l] at hgc3
            have hxe := Option.some.inj (hgc3.symm.trans hgc8)
            simp only [Value.slice.injEq, true_and] at hxe
            obtain ⟨rfl, rfl⟩ := hxe
            have hst := hD.tab (T := fun q => q = r3) (hput3 0 y9) (chg1 WQ r3 0 _) (fun q e => by omega)
            have hc0 := hrc3 0 (by rw [hr0l]; exact hsp)
            have hf0 := hrf3 0
            have HF := Lib.hid (And.intro hst.fin (And.intro hst.cur hst.chg))
            have HLE : Hid ((nx.set 0 ((nx.getD 0 []).set 0 y9)).length ≤ 8) := Lib.hid (by rw [List.length_set, HNX.out]; exact hN8)
            refine wpAnyK_tail 9 rfl (by kernel_rfl) ?_
            simp only [List.drop_succ_cons, List.drop_zero]
            clear hD hput3 hrc3 hrf3 hst hgc3
            go_wp2_with fail
            go_ret
            first
              | exact ⟨_, _, rfl, HF.out.1, HLE.out, HF.out.2.1.more (by omega), HF.out.2.2⟩
              | exact ⟨_, rfl, _, HF.out.1, HLE.out, HF.out.2.1.more (by omega), HF.out.2.2⟩
          · by_cases h1 : x = 1
            · subst h1
              obtain ⟨g2, gc2, x2, hv2, hgc2, hgf2, hx2, hxF2, hxg2, hFg2, hput2⟩ := hD.oo.putGrow hnp
              simp only [Value.slice.injEq, Option.some.injEq, Addr.mk.injEq, and_true] at hv2
              obtain ⟨rfl, hnn, rfl⟩ := hv2
              clear hnn
              have hxe := Option.some.inj (hgc2.symm.trans hgc7)
              subst hxe
              obtain ⟨row0, hrow0⟩ : ∃ row0, nx.getD 0 [] = row0 := ⟨_, rfl⟩
              rw [hrow0] at hx2 hr0l
              have hl9 : row0.length < 17592186044416 := by rw [hr0l]; omega
              clear hr0l hrow0
              have hz9 : R0 + 1 ≤ w7.heap.size := by have := hD.bx.lt; omega
              have hg7 := (hD.oo.lt g hFg2).2
              clear hput hx0 hxF hxg hgc hgf k7 hc7 hgc2
              go_wp2_with (at_builtin; refine wapp1 rfl (.tmp 103) (.tmp 104) rfl hx2 rfl rfl hl9 hz9 ?_)
              intro v2 w8 h2 k2 f2
              obtain ⟨a2, n2, c2, rfl⟩ := h2.shape
              obtain ⟨F3, h3, h4⟩ := hput2 _ w8 _ h2 k2 f2
              have hst := hD.tab (T := fun q => own (.slice ra s.length rc) q ∨ q = g) h3 ((k2.mono (fun q hq _ => .inl hq)).setCell (p := ⟨g, 0, none⟩) (fun _ => .inr rfl) _) (fun q e => by
                rcases e with e | e
                · exact (hx2.lt q e).1
                · omega)
              have gg := (k2.cellD g 0 hg7 hxg2).trans hgc7
              have gf := (k2.frozenD g 0 hg7 hxg2).trans hgf2
              obtain ⟨nz, hnz⟩ : ∃ nz, nx.set 0 (row0 ++ [0]) = nz := ⟨_, rfl⟩
              have HLE : Hid (nz.length ≤ 8) := Lib.hid (by rw [← hnz, List.length_set, HNX.out]; exact hN8)
              rw [hnz] at hst
              have HF := Lib.hid (And.intro hst.fin (And.intro hst.cur hst.chg))
              clear hnz
              clear hD h3 h4 hst k2 f2 hput2 hx2 h2
              go_wp2_with fail
              go_ret
              first
                | exact ⟨_, _, rfl, HF.out.1, HLE.out, HF.out.2.1.more (by omega), HF.out.2.2⟩
                | exact ⟨_, rfl, _, HF.out.1, HLE.out, HF.out.2.1.more (by omega), HF.out.2.2⟩
            · by_cases h2 : x = 2
              · subst h2
                obtain ⟨a', c', hsl, hR⟩ := RII.from1 (a := some ⟨g, 0, none⟩) (cap := oc) (by have := hD.fin; rw [← HNX.out] at this; exact this) hnp
                rw [HNX.out] at hsl hR
                have hcu := hD.cur
                have hch := hD.chg
                have HF := Lib.hid (And.intro hR (And.intro hcu hch))
                have HLE : Hid ((nx.drop 1).length ≤ 8) := Lib.hid (by rw [List.length_drop, HNX.out]; omega)
                clear hD hR hcu hch
                go_wp2_with fail
                go_ret
                first
                  | exact ⟨_, _, rfl, HF.out.1, HLE.out, HF.out.2.1.more (by omega), HF.out.2.2⟩
                  | exact ⟨_, rfl, _, HF.out.1, HLE.out, HF.out.2.1.more (by omega), HF.out.2.2⟩
              · have HF := Lib.hid (And.intro hD.fin (And.intro hD.cur hD.chg))
                clear hD
                go_wp2_with fail
                go_ret
                first
                  | exact ⟨_, nx, rfl, HF.out.1, by rw [HNX.out]; exact hN8, HF.out.2.1.more (by omega), HF.out.2.2⟩
                  | exact ⟨_, rfl, nx, HF.out.1, by rw [HNX.out]; exact hN8, HF.out.2.1.more (by omega), HF.out.2.2⟩
        · have hsp1 : ¬ (0 : Int) < (s.length : Int) := by omega
          have HF := Lib.hid (And.intro hD.fin (And.intro hD.cur hD.chg))
          clear hD
          go_wp2_with fail
          go_ret
          first
            | exact ⟨_, nx, rfl, HF.out.1, by rw [HNX.out]; exact hN8, HF.out.2.1.more (by omega), HF.out.2.2⟩
            | exact ⟨_, rfl, nx, HF.out.1, by rw [HNX.out]; exact hN8, HF.out.2.1.more (by omega), HF.out.2.2⟩
      · have hmp1 : ¬ (0 : Int) < (m.length : Int) := by omega
        have HF := Lib.hid (And.intro hD.fin (And.intro hD.cur hD.chg))
        clear hD
        go_wp2_with fail
        go_ret
        first
          | exact ⟨_, nx, rfl, HF.out.1, by rw [HNX.out]; exact hN8, HF.out.2.1.more (by omega), HF.out.2.2⟩
          | exact ⟨_, rfl, nx, HF.out.1, by rw [HNX.out]; exact hN8, HF.out.2.1.more (by omega), HF.out.2.2⟩
end Go.Proofs.YtndhijckbponkaaGreat
