import Derived.Test.YtndhijckbponkaaGreatXh
import Derived.Test.YtndhijckbponkaaGreatQd
/- the greedy algorithm, made -/
namespace Go.Proofs.YtndhijckbponkaaGreat
open Go.RowKit

def algT2 (p : Pr) (l : List Int) (j : Nat) : Prop := l.length = j ∧ ∀ r, r < j → AlgC p l r
def algR2 (p : Pr) (nx : List (List Int)) (j : Nat) : Prop := nx.length = j ∧ ∀ s, s < j → AlgRow p (nx.getD s [])
theorem algT2.snoc {p : Pr} {l : List Int} {j t : Nat} (h : algT2 p l j) (ht : t < p.mv.length) (ho : okA p j t = true) : algT2 p (l ++ [(t : Int)]) (j + 1) := by
  refine ⟨by rw [List.length_append, h.1]; rfl, fun r hr => ?_⟩
  unfold AlgC
  by_cases e : r < j
  · rw [List.getD_eq_getElem?_getD, List.getElem?_append_left (by rw [h.1]; exact e), ← List.getD_eq_getElem?_getD]
    exact h.2 r e
  · have er : r = j := by omega
    subst er
    rw [List.getD_eq_getElem?_getD, List.getElem?_append_right (by rw [h.1]; exact Nat.le_refl _), h.1, Nat.sub_self]
    exact ⟨⟨Int.natCast_nonneg _, by show (t : Int) < _; omega⟩, of_decide_eq_true ho⟩
theorem algR2.snoc {p : Pr} {nx : List (List Int)} {j : Nat} (h : algR2 p nx j) {l : List Int} (hl : algT2 p l p.sv.length) : algR2 p (nx ++ [l]) (j + 1) := by
  refine ⟨by rw [List.length_append, h.1]; rfl, fun s hs => ?_⟩
  by_cases e : s < j
  · rw [List.getD_eq_getElem?_getD, List.getElem?_append_left (by rw [h.1]; exact e), ← List.getD_eq_getElem?_getD]
    exact h.2 s e
  · have er : s = j := by omega
    subst er
    rw [List.getD_eq_getElem?_getD, List.getElem?_append_right (by rw [h.1]; exact Nat.le_refl _), h.1, Nat.sub_self]
    exact ⟨hl.1, fun r hr => hl.2 r (by have := hl.1; simp at hr; omega)⟩
theorem cfGreedy (rv x y : Value) (w : World) : (callFunc 54 #[rv, x, y]).run Tryz.prog w = .ok (.enter 54 #[rv, x, y]) w := by kernel_rfl
set_option maxRecDepth 100000 in
set_option maxHeartbeats 4000000 in
theorem algorithmBy_any (A : Nat → Prop) (v : Value) (p : Pr) (w : World) (hp : PrP p) (h : RPr A w v p) :
    Calls Tryz.prog 53 #[v, .func (.func 54) #[v] #[]] w (Ret fun e w' => ∃ nx, RII No w' e nx ∧ AlgP p nx ∧ Chg No w w') := by
  have hv := h
  obtain ⟨mv, sv, rfl, hm, hs⟩ := h
  obtain ⟨ma, mc, rfl⟩ := hm.shape
  obtain ⟨sa, sc, rfl⟩ := hs.shape
  have HP := Lib.hid hp
  have hpl : p.mv.length ≤ 4 ∧ p.sv.length ≤ 4 := ⟨hp.1.2, hp.2.2.1.2⟩
  have b0 := BoxN.new w #[.slice ma p.mv.length mc, .slice sa p.sv.length sc] 26
  have k0 := (Chg.refl No w).alloc (.cells #[.slice ma p.mv.length mc, .slice sa p.sv.length sc] 26)
  have z0 : (w.alloc (.cells #[.slice ma p.mv.length mc, .slice sa p.sv.length sc] 26)).heap.size = w.heap.size + 1 := World.size_alloc _ _
  obtain ⟨R0, hR0⟩ : ∃ R, w.heap.size = R := ⟨_, rfl⟩
  rw [hR0] at b0 z0
  obtain ⟨W0, hW0⟩ : ∃ W, w.alloc (.cells #[.slice ma p.mv.length mc, .slice sa p.sv.length sc] 26) = W := ⟨_, rfl⟩
  rw [hW0] at b0 k0 z0
  have k1 := (Chg.refl No W0).alloc (.cells #[] 27)
  have oz := OII.zero (base := R0 + 1) (w := W0) (Nat.le_of_eq z0.symm)
  rw [z0] at oz
  have kk := k0.trans k1
  have bb := b0.keep k1
  have HRS := Lib.hid hR0
  have hcf := cfGreedy (.agg #[.slice ma p.mv.length mc, .slice sa p.sv.length sc])
  have g0 := bb.c 0 _ rfl
  clear b0 k0 k1 hm hs hp
  go_enter Tryz.func53, Tryz.ntmps53
  go_wp2_with fail
  clear g0
  generalize W0.alloc _ = W1 at oz kk bb ⊢
  clear hW0 hR0 z0
  go_loopw [5, 6, 7, 8, 13] (fun o _ _ _ z wr => ∃ (i : Nat) (nx : List (List Int)) (F : Nat → Prop), i ≤ p.mv.length ∧ z = .int .i64 (i : Int) ∧ OII (R0 + 1) wr o nx F ∧ Hid (algR2 p nx i) ∧ Chg No w wr ∧ BoxN wr R0 [.slice ma p.mv.length mc, .slice sa p.sv.length sc]) (fun _ _ _ _ z _ => p.mv.length - (intOf z).toNat)
  case atStart => exact ⟨0, [], _, Nat.zero_le _, rfl, oz, Lib.hid ⟨rfl, fun t ht => absurd ht (Nat.not_lt_zero t)⟩, kk, bb⟩
  case round =>
    clear oz kk bb
    obtain ⟨i, nx, F, hi, rfl, ho, HN, kr, bb⟩ := hrel
    have hi0 : (0 : Int) ≤ (i : Int) := Int.natCast_nonneg _
    obtain ⟨oa, oc, rfl⟩ := ho.readNo.shape
    rw [HN.out.1] at ho ⊢
    by_cases hlt : i < p.mv.length
    · have hi1 : (i : Int) < (p.mv.length : Int) := by omega
      have hwi : IntKind.i64.wrap ((i : Int) + 1) = (i : Int) + 1 := IntWalk.i64_in _ (by omega)
      have g0 := bb.c 0 _ rfl
      have g1 := bb.c 1 _ rfl
      obtain ⟨Z, hZ⟩ : ∃ Z, wr.heap.size = Z := ⟨_, rfl⟩
      have HFZ := Lib.hid (fun q (hq : F q) => by have := (ho.lt q hq).2; rw [hZ] at this; exact this)
      have kz := (Chg.refl No wr).alloc (.cells #[] 3)
      have rz := OI.zero (base := wr.heap.size) (w := wr) (Nat.le_refl _)
      rw [hZ] at rz
      have hRZ : R0 < Z := by rw [← hZ]; exact bb.lt
      have g0' := (bb.keep kz).c 0 _ rfl
      have g1' := (bb.keep kz).c 1 _ rfl
      have HZ := Lib.hid hZ
      have ho2 := ho.keep kz
      have kr2 := kr.keep kz
      have bb2 := bb.keep kz
      have hzW : Z + 1 ≤ (wr.alloc (.cells #[] 3)).heap.size := by rw [World.size_alloc, hZ]; exact Nat.le_refl _
      go_wp2_with fail
      clear g0 g1 g0' g1' kz ho kr bb hZ HZ
      generalize wr.alloc _ = W2 at rz ho2 kr2 bb2 hzW ⊢
      go_loopw [7, 8, 20] (fun y _ z wi => ∃ (r : Nat) (l : List Int), r ≤ p.sv.length ∧ z = .int .i64 (r : Int) ∧ OI Z wi y l ∧ Hid (algT2 p l r) ∧ OII (R0 + 1) wi (.slice oa i oc) nx F ∧ Z + 1 ≤ wi.heap.size ∧ Chg No w wi ∧ BoxN wi R0 [.slice ma p.mv.length mc, .slice sa p.sv.length sc]) (fun _ _ z _ => p.sv.length - (intOf z).toNat)
      case atStart => exact ⟨0, [], Nat.zero_le _, rfl, rz, Lib.hid ⟨rfl, fun t ht => absurd ht (Nat.not_lt_zero t)⟩, ho2, hzW, kr2, bb2⟩
      case round =>
        clear rz ho2 kr2 bb2 hzW
        obtain ⟨r, l, hr, rfl, hy, HT, ho, hzr, kr, bb⟩ := hrel
        have hr0 : (0 : Int) ≤ (r : Int) := Int.natCast_nonneg _
        obtain ⟨ya, yc, rfl, _⟩ := hy.view
        rw [HT.out.1] at hy ⊢
        by_cases hrt : r < p.sv.length
        · have hr1 : (r : Int) < (p.sv.length : Int) := by omega
          have hwr : IntKind.i64.wrap ((r : Int) + 1) = (r : Int) + 1 := IntWalk.i64_in _ (by omega)
          have hl9 : l.length < 17592186044416 := by have := HT.out.1; omega
          go_wp2_with fail
          refine (greedy_any A _ p i r wr HP.out (hv.keep kr) hlt hrt).mono ?_
          rintro e w3 ⟨_, rfl, t, rfl, ht, hto, k3⟩
          have HT2 := Lib.hid (HT.out.snoc ht hto)
          replace hy := hy.keep k3
          replace ho := ho.keep k3
          replace hzr := Nat.le_trans hzr k3.size
          replace kr := kr.keep k3
          replace bb := bb.keep k3
          have hbz : Z ≤ w3.heap.size := by omega
          clear hto k3
          go_wp2_with (at_builtin; refine wapp1 rfl (.tmp 23) (.tmp 28) rfl hy rfl rfl hl9 hbz ?_)
          intro v4 w4 h4 k4 f4
          have kr4 := kr.step k4 (fun q hq hl => by have := (hy.lt q hq).1; have := HRS.out; omega)
          have bb4 := bb.step k4 (fun e => by have := (hy.lt _ e).1; omega)
          have ho4 := ho.step k4 (fun q hq e => by have := HFZ.out q hq; have := (hy.lt q e).1; omega)
          have hz4 := Nat.le_trans hzr k4.size
          clear hy ho kr bb k4 f4 hzr hbz
          go_wp2_with fail
          go_round
          case rel => exact ⟨r + 1, l ++ [(t : Int)], hrt, by go_num, h4, HT2, ho4, hz4, kr4, bb4⟩
          case measure => simp [intOf]; omega
        · have hre : r = p.sv.length := by omega
          have hr1 : ¬ (r : Int) < (p.sv.length : Int) := by omega
          have HN2 := Lib.hid (HN.out.snoc (l := l) (by rw [← hre]; exact HT.out))
          have hlen : nx.length < 1099511627776 := by have := HN.out.1; omega
          have hbz : R0 + 1 ≤ wr.heap.size := by omega
          have hd1 : ∀ q, own (Value.slice ya r yc) q → ¬ F q := fun q hq e => by have := (hy.lt q hq).1; have := HFZ.out q e; omega
          have hyX := hy.weak (show R0 + 1 ≤ Z by omega)
          clear hre
          go_wp2_with (at_builtin; refine wappR rfl (.tmp 31) (.tmp 33) rfl ho hyX hd1 rfl rfl hlen hbz ?_)
          intro v3 w7 F3 h3 k3 hF3 hFo
          have kr3 := kr.step k3 (fun q hq hl => by have := (ho.lt q (hFo q hq)).1; have := HRS.out; omega)
          have bb3 := bb.step k3 (fun e => by have := (ho.lt _ (hFo _ e)).1; omega)
          obtain ⟨v3a, v3c, rfl⟩ := h3.readNo.shape
          clear k3 hF3 hFo ho hy hyX hd1 kr bb
          go_wp2_with fail
          go_round
          case rel => exact ⟨i + 1, nx ++ [l], F3, hlt, by go_num, h3, HN2, kr3, bb3⟩
          case measure => simp [intOf]; omega
    · have hie : i = p.mv.length := by omega
      have hi1 : ¬ (i : Int) < (p.mv.length : Int) := by omega
      have HF := Lib.hid (And.intro ho.readNo (And.intro (show AlgP p nx from ⟨by rw [HN.out.1, hie], fun s hs => HN.out.2 s (by rw [HN.out.1] at hs; exact hs)⟩) kr))
      clear ho kr bb hie
      go_wp2_with fail
      go_ret
      exact ⟨_, rfl, nx, HF.out⟩
end Go.Proofs.YtndhijckbponkaaGreat
