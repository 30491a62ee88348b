import Derived.Test.YtndhijckbponkaaGreatPkX12
import Derived.Test.YtndhijckbponkaaGreatPi
import Derived.Test.YtndhijckbponkaaGreatPkX11
/- what an algorithm pays: the program's walk -/
namespace Go.Proofs.YtndhijckbponkaaGreat
open Go.RowKit

theorem take_last {q : List Int} {k : Nat} (hk : k < q.length) : (q.take (k + 1)).getLastD 0 = q.getD k 0 := by
  rw [List.getLastD_eq_getLast?, List.getLast?_eq_getElem?, List.length_take, List.getElem?_take, List.getD_eq_getElem?_getD]
  rw [show min (k + 1) q.length - 1 = k by omega, if_pos (by omega)]
theorem stTo_alg (nx : List (List Int)) (S : Nat) {q : List Int} {k : Nat} (hk : k < q.length) : stTo (algT nx) S q (k + 1) = ((nx.getD (stTo (algT nx) S q k) []).getD (q.getD k 0).toNat 0).toNat := by
  show algT nx _ _ = _
  unfold algT
  rw [take_last hk]
set_option maxRecDepth 100000 in
set_option maxHeartbeats 2000000 in
theorem ran_any (A B C : Nat → Prop) (v nv rv : Value) (p : Pr) (nx : List (List Int)) (S : Nat) (q : List Int) (w : World) (hp : PrP p) (hn : AlgP p nx) (h : RPr A w v p) (hnx : RII B w nv nx) (hq : RI C w rv q) (hS : S < p.mv.length) (hqr : ∀ r ∈ q, 0 ≤ r ∧ r < (p.sv.length : Int)) (hql : q.length ≤ 60) :
    Calls Tryz.prog 40 #[v, nv, .int .i64 (S : Int), rv] w fun e w' => ∃ v0, e = .returned (.tuple #[v0, .int .i64 (rest p (algT nx) S [] q)]) ∧ Chg No w w' := by
  have hv := h
  obtain ⟨mv, sv, rfl, hm, hs⟩ := h
  obtain ⟨ma, mc, rfl⟩ := hm.shape
  obtain ⟨sa, sc, rfl⟩ := hs.shape
  obtain ⟨na, nc, rfl⟩ := hnx.shape
  obtain ⟨qa, qc, rfl, _⟩ := id hq
  have hbd := hp.bnd
  clear hm hs
  have HP := Lib.hid (And.intro hp (And.intro hn hqr))
  have b0 := BoxN.new w #[.slice ma p.mv.length mc, .slice sa p.sv.length sc] 26
  have k0 := (Chg.refl No w).alloc (.cells #[.slice ma p.mv.length mc, .slice sa p.sv.length sc] 26)
  have z0 : (w.alloc (.cells #[.slice ma p.mv.length mc, .slice sa p.sv.length sc] 26)).heap.size = w.heap.size + 1 := World.size_alloc _ _
  obtain ⟨R0, hR0⟩ : ∃ R, w.heap.size = R := ⟨_, rfl⟩
  rw [hR0] at b0 z0
  obtain ⟨W0, hW0⟩ : ∃ W, w.alloc (.cells #[.slice ma p.mv.length mc, .slice sa p.sv.length sc] 26) = W := ⟨_, rfl⟩
  rw [hW0] at b0 k0 z0
  have k1 := (Chg.refl No W0).alloc (.cells #[] 3)
  have oz := OI.zero (base := R0 + 1) (w := W0) (Nat.le_of_eq z0.symm)
  rw [z0] at oz
  have kk := k0.trans k1
  have bb := b0.keep k1
  have HRS := Lib.hid hR0
  clear hp hn hqr b0 k0 k1
  go_enter Tryz.func40, Tryz.ntmps40
  go_wp2_with fail
  generalize W0.alloc _ = W1 at oz kk bb ⊢
  clear hW0 hR0 z0
  go_loopw [2, 10, 11, 18] (fun a o c z wr => ∃ (k : Nat) (l : List Int) (x : Nat) (cc : Int), k ≤ q.length ∧ a = .int .i64 (x : Int) ∧ OI (R0 + 1) wr o l ∧ c = .int .i64 cc ∧ z = .int .i64 (k : Int) ∧ l.length = k ∧ Hid (stTo (algT nx) S q k = x) ∧ Hid (coTo p (algT nx) S q k = cc) ∧ x < p.mv.length ∧ 0 ≤ cc ∧ cc ≤ 119 * (k : Int) ∧ Chg No w wr ∧ BoxN wr R0 [.slice ma p.mv.length mc, .slice sa p.sv.length sc]) (fun _ _ _ z _ => q.length - (intOf z).toNat)
  case atStart => exact ⟨0, [], S, 0, Nat.zero_le _, rfl, oz, rfl, rfl, rfl, Lib.hid rfl, Lib.hid rfl, hS, Int.le_refl _, Int.le_refl _, kk, bb⟩
  case round =>
    clear oz kk bb
    obtain ⟨k, l, x, cc, hk, rfl, ho, rfl, rfl, hlk, HST, HCO, hx, hc0, hc1, kr, bb⟩ := hrel
    have hk0 : (0 : Int) ≤ (k : Int) := Int.natCast_nonneg _
    obtain ⟨oa, oc, rfl, _⟩ := ho.view
    rw [hlk] at ho ⊢
    have HLK := Lib.hid hlk
    clear hlk
    by_cases hlt : k < q.length
    · have hk1 : (k : Int) < (q.length : Int) := by omega
      have hwk : IntKind.i64.wrap ((k : Int) + 1) = (k : Int) + 1 := IntWalk.i64_in _ (by omega)
      obtain ⟨qb, qf, rfl, hqb, hcq⟩ := (hq.keep kr).cellN hlt
      have hqm : q.getD k 0 ∈ q := by rw [List.getD_eq_getElem?_getD, List.getElem?_eq_getElem hlt]; exact List.getElem_mem _
      obtain ⟨hr0, hr1⟩ := HP.out.2.2 _ hqm
      obtain ⟨r, hr⟩ : ∃ r : Nat, q.getD k 0 = (r : Int) := ⟨(q.getD k 0).toNat, by omega⟩
      rw [hr] at hr0 hr1 hcq
      have hrl : r < p.sv.length := by omega
      have hxn : x < nx.length := by have := HP.out.2.1.1; omega
      obtain ⟨nb, nf, ta, tc, rfl, hnb, hcn, htr⟩ := (hnx.keep kr).row hxn
      obtain ⟨hal1, hal2⟩ := HP.out.2.1.2 x hxn
      obtain ⟨row, hrow⟩ : ∃ row, nx.getD x [] = row := ⟨_, rfl⟩
      rw [hrow] at hcn htr hal1 hal2
      have hrr : r < row.length := by omega
      obtain ⟨⟨hy0, hy1⟩, hy2⟩ := hal2 r hrr
      obtain ⟨tb, tf, rfl, htb, hct⟩ := htr.cellN hrr
      obtain ⟨y, hy⟩ : ∃ y : Nat, row.getD r 0 = (y : Int) := ⟨(row.getD r 0).toNat, by omega⟩
      rw [hy] at hy0 hy1 hy2 hct
      rw [Int.toNat_natCast] at hy2
      have hyl : y < p.mv.length := by omega
      have HST' : Hid (stTo (algT nx) S q (k + 1) = y) := Lib.hid (by rw [stTo_alg nx S hlt, HST.out, hrow, hr, Int.toNat_natCast, hy, Int.toNat_natCast])
      have hmi := HP.out.1.mv_in hx hyl
      have hco := HP.out.1.cost x y r hx hyl hrl
      obtain ⟨u, hu⟩ : ∃ u, mvA p x y + svA p r y = u := ⟨_, rfl⟩
      have hu0 : 0 ≤ u ∧ u ≤ 119 := by omega
      have HCO' : Hid (coTo p (algT nx) S q (k + 1) = cc + u) := Lib.hid (by
        show coTo p (algT nx) S q k + (mvA p (stTo (algT nx) S q k) (stTo (algT nx) S q (k + 1)) + svA p (q.getD k 0).toNat (stTo (algT nx) S q (k + 1))) = _
        rw [HCO.out, HST'.out, HST.out, hr, Int.toNat_natCast, hu])
      have hwu : IntKind.i64.wrap (cc + u) = cc + u := IntWalk.i64_in _ (by omega)
      have g0 := bb.c 0 _ rfl
      have g1 := bb.c 1 _ rfl
      have hx0 : (0 : Int) ≤ (x : Int) := Int.natCast_nonneg _
      have hx1 : (x : Int) < (nx.length : Int) := by omega
      have hr2 : (r : Int) < (row.length : Int) := by omega
      have hu' := Lib.hid hu
      have hkq : (k : Int) ≤ 60 := by omega
      clear hqm hr hal1 hal2 hrow hy hy2 hmi hco hu htr
      go_wp2_with fail
      refine (cost_any A _ p x y r wr (hv.keep kr) hbd hx hyl hrl).mono ?_
      rintro e w2 ⟨_, rfl, rfl, k2⟩
      rw [hu'.out]
      have ho2 := ho.keep k2
      have kr2 := kr.keep k2
      have bb2 := bb.keep k2
      have hl9 : l.length < 17592186044416 := by have := HLK.out; omega
      have hbz : R0 + 1 ≤ w2.heap.size := by have := bb2.lt; omega
      clear ho kr bb g0 g1 k2
      go_wp2_with (at_builtin; refine wapp1 rfl (.tmp 36) (.tmp 38) rfl ho2 rfl rfl hl9 hbz ?_)
      intro v3 w3 h3 k3 f3
      have kr3 := kr2.step k3 (fun q hq hlt => by have := (ho2.lt q hq).1; have := HRS.out; omega)
      have bb3 := bb2.step k3 (fun e => by have := (ho2.lt _ e).1; omega)
      clear ho2 kr2 bb2 k3 f3
      go_wp2_with fail
      go_round
      case rel => exact ⟨k + 1, l ++ [(y : Int)], y, cc + u, hlt, rfl, h3, rfl, by go_num, by rw [List.length_append, HLK.out]; rfl, HST', HCO', hyl, by omega, by push_cast; omega, kr3, bb3⟩
      case measure => simp [intOf]; omega
    · have hke : k = q.length := by omega
      subst hke
      have HE : Hid (rest p (algT nx) S [] q = cc) := Lib.hid ((co_all p (algT nx) S q).symm.trans HCO.out)
      go_wp2_with fail
      go_ret2
      exact ⟨_, by rw [HE.out]; rfl, kr⟩
end Go.Proofs.YtndhijckbponkaaGreat
