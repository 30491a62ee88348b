import Derived.Test.YtndhijckbponkaaGreatPkX12
import Derived.Test.YtndhijckbponkaaGreatPkX3
import Derived.Test.YtndhijckbponkaaGreatPkX9
import Derived.Test.YtndhijckbponkaaGreatPkX10
import Derived.Test.YtndhijckbponkaaGreatPkX5
/- algorithms of a Problem, the reference's side -/
namespace Go.Proofs.YtndhijckbponkaaGreat
open Go.RowKit

set_option maxRecDepth 100000 in
set_option maxHeartbeats 2000000 in
theorem l8Alg_any (A B : Nat → Prop) (v nv : Value) (p : Pr) (nx : List (List Int)) (w : World) (hp : PrP p) (h : RPr A w v p) (hn : RII B w nv nx) :
    Calls Tryz.prog 42 #[v, nv] w (Ret fun r w' => r = .bool (bP (AlgP p nx)) ∧ Chg No w w') := by
  obtain ⟨mv, sv, rfl, hm, hs⟩ := h
  obtain ⟨ma, mc, rfl⟩ := hm.shape
  obtain ⟨sa, sc, rfl⟩ := hs.shape
  obtain ⟨na, nc, rfl⟩ := hn.shape
  have hpl : p.mv.length ≤ 4 ∧ 1 ≤ p.mv.length ∧ p.sv.length ≤ 4 := ⟨hp.1.2, hp.1.1, hp.2.2.1.2⟩
  obtain ⟨hpl1, hpl2, hpl3⟩ := hpl
  have hnl := hn.len
  by_cases hlen : (nx.length : Int) = (p.mv.length : Int)
  · have hbn : ((nx.length : Int) != (p.mv.length : Int)) = false := by rw [hlen]; exact bne_self_eq_false _
    have HLEN : Hid (nx.length = p.mv.length) := Lib.hid (by omega)
    clear hlen
    go_enter Tryz.func42, Tryz.ntmps42
    go_wp2_with fail
    refine bx1 (R := fun W => Code.wp _ _ _ _ W) (fun W0 k0 b0 => ?_)
    obtain ⟨R0, hR0⟩ : ∃ R, w.heap.size = R := ⟨_, rfl⟩
    rw [hR0] at b0 ⊢
    have hm0 := hm.keep k0
    have hs0 := hs.keep k0
    have hn0 := hn.keep k0
    have HP := Lib.hid hp
    clear hm hs hn hR0 hp
    go_loopw [5] (fun z wr => ∃ i : Nat, i ≤ nx.length ∧ z = .int .i64 (i : Int) ∧ Hid (∀ s, s < i → AlgRow p (nx.getD s [])) ∧ Chg No W0 wr) (fun z _ => nx.length - (intOf z).toNat)
    case atStart => exact ⟨0, Nat.zero_le _, rfl, Lib.hid (fun r hr => absurd hr (Nat.not_lt_zero r)), Chg.refl _ _⟩
    case round =>
      obtain ⟨i, hi, rfl, HI, kr⟩ := hrel
      have hi0 : (0 : Int) ≤ (i : Int) := Int.natCast_nonneg _
      by_cases hlt : i < nx.length
      · have hi1 : (i : Int) < (nx.length : Int) := by omega
        have hwi : IntKind.i64.wrap ((i : Int) + 1) = (i : Int) + 1 := IntWalk.i64_in _ (by omega)
        obtain ⟨nb, nf, ta, tc, rfl, hnb, hcn, htr⟩ := hn0.row hlt
        obtain ⟨row, hrow⟩ : ∃ row, nx.getD i [] = row := ⟨_, rfl⟩
        rw [hrow] at hcn htr
        have HROW := Lib.hid hrow
        have g0 := (b0.keep kr).c 0 _ rfl
        have g1 := (b0.keep kr).c 1 _ rfl
        have g2 := (kr.cellD nb (nf + i) hnb (fun e => e)).trans hcn
        clear hrow
        by_cases hrl : (row.length : Int) = (p.sv.length : Int)
        · have hbr : ((row.length : Int) != (p.sv.length : Int)) = false := by rw [hrl]; exact bne_self_eq_false _
          have HRL : Hid (row.length = p.sv.length) := Lib.hid (by omega)
          have hrl4 : row.length ≤ 4 := by omega
          clear hrl
          go_wp2_with fail
          go_quiet (fail)
          replace kr := kr.keep ((Chg.refl No wr).drewN nq)
          generalize World.drewN _ _ = W1 at kr ⊢
          clear g0 g1 g2
          go_wp2_with fail
          go_loopw [6] (fun z wr => ∃ r : Nat, r ≤ row.length ∧ z = .int .i64 (r : Int) ∧ Hid (∀ s, s < r → AlgC p row s) ∧ Chg No W0 wr) (fun z _ => row.length - (intOf z).toNat)
          case atStart => exact ⟨0, Nat.zero_le _, rfl, Lib.hid (fun r hr => absurd hr (Nat.not_lt_zero r)), kr⟩
          case round =>
            clear kr
            obtain ⟨r, hr, rfl, HR, kr⟩ := hrel
            have hr0 : (0 : Int) ≤ (r : Int) := Int.natCast_nonneg _
            have g2 := (kr.cellD nb (nf + i) hnb (fun e => e)).trans hcn
            by_cases hrt : r < row.length
            · have hr1 : (r : Int) < (row.length : Int) := by omega
              have hwr : IntKind.i64.wrap ((r : Int) + 1) = (r : Int) + 1 := IntWalk.i64_in _ (by omega)
              obtain ⟨tb, tf, rfl, htb, hct⟩ := htr.cellN hrt
              obtain ⟨x, hx⟩ : ∃ x, row.getD r 0 = x := ⟨_, rfl⟩
              have HX := Lib.hid hx
              rw [hx] at hct
              have g0 := (b0.keep kr).c 0 _ rfl
              have g1 := (b0.keep kr).c 1 _ rfl
              have g3 := (kr.cellD tb (tf + r) htb (fun e => e)).trans hct
              have hwm : IntKind.i64.wrap ((p.mv.length : Int) - 1) = (p.mv.length : Int) - 1 := IntWalk.i64_in _ (by omega)
              clear hx
              cases hin : inB x 0 ((p.mv.length : Int) - 1)
              · have HB : Hid (bP (AlgP p nx) = false) := Lib.hid (bP_no (fun e => by
                  have := algC_in ((e.2 i hlt).2 r (by rw [HROW.out]; exact hrt))
                  rw [HROW.out, HX.out, hin] at this; cases this))
                have HIN : Hid (∀ W, Calls Tryz.prog 97 #[.int .i64 x, .int .i64 0, .int .i64 ((p.mv.length : Int) - 1)] W fun e w' => e = .returned (.bool false) ∧ W = w') := Lib.hid (fun W => by
                  have := l1In_any x 0 ((p.mv.length : Int) - 1) W
                  rwa [hin] at this)
                clear hin
                go_wp2_with fail
                go_quiet ((go_at_call 97; exact quiet_sym (HIN.out _)))
                go_wp2_with fail
                go_ret
                exact ⟨_, rfl, by rw [HB.out]; rfl, k0.keep (kr.keep ((Chg.refl No wr).drewN nq))⟩
              · have hxin := inB_iff.1 hin
                have HIN : Hid (∀ W, Calls Tryz.prog 97 #[.int .i64 x, .int .i64 0, .int .i64 ((p.mv.length : Int) - 1)] W fun e w' => e = .returned (.bool true) ∧ W = w') := Lib.hid (fun W => by
                  have := l1In_any x 0 ((p.mv.length : Int) - 1) W
                  rwa [hin] at this)
                obtain ⟨Y, rfl⟩ : ∃ Y : Nat, x = (Y : Int) := ⟨x.toNat, by omega⟩
                have hY : Y < p.mv.length := by omega
                have hY0 : (0 : Int) ≤ (Y : Int) := Int.natCast_nonneg _
                have hY1 : (Y : Int) < (p.mv.length : Int) := by omega
                have hrs : r < p.sv.length := by have := HRL.out; omega
                have hrs1 : (r : Int) < (p.sv.length : Int) := by omega
                obtain ⟨sb, so, ua, uc, rfl, hsb, hcs, hur⟩ := hs0.row hrs
                have hsl : (p.sv.getD r []).length = p.mv.length := HP.out.svq hrs
                obtain ⟨ub, uf, rfl, hub, hcu⟩ := hur.cellN (j := Y) (by rw [hsl]; exact hY)
                rw [hsl] at hcs
                obtain ⟨y, hy⟩ : ∃ y, (p.sv.getD r []).getD Y 0 = y := ⟨_, rfl⟩
                rw [hy] at hcu
                have HY : Hid (svA p r (row.getD r 0).toNat = y) := Lib.hid (by rw [HX.out, Int.toNat_natCast]; exact hy)
                have g4 := (kr.cellD sb (so + r) hsb (fun e => e)).trans hcs
                have g5 := (kr.cellD ub (uf + Y) hub (fun e => e)).trans hcu
                clear hin hxin hy hur hsl
                by_cases hy0 : y < 0
                · have HB : Hid (bP (AlgP p nx) = false) := Lib.hid (bP_no (fun e => by
                    have := ((e.2 i hlt).2 r (by rw [HROW.out]; exact hrt)).2
                    rw [HROW.out, HY.out] at this; omega))
                  go_wp2_with fail
                  go_quiet ((go_at_call 97; exact quiet_sym (HIN.out _)))
                  go_wp2_with fail
                  go_ret
                  exact ⟨_, rfl, by rw [HB.out]; rfl, k0.keep (kr.keep ((Chg.refl No wr).drewN nq))⟩
                · have HR' : Hid (∀ s, s < r + 1 → AlgC p row s) := Lib.hid (fun s hs => by
                    by_cases e : s = r
                    · subst e
                      exact ⟨by rw [HX.out]; omega, by rw [HY.out]; omega⟩
                    · exact HR.out s (by omega))
                  go_wp2_with fail
                  go_quiet ((go_at_call 97; exact quiet_sym (HIN.out _)))
                  go_wp2_with fail
                  go_round
                  case rel => exact ⟨r + 1, by omega, by go_num, HR', kr.keep ((Chg.refl No wr).drewN nq)⟩
                  case measure => simp [intOf]; omega
            · have hre : r = row.length := by omega
              subst hre
              have HI' : Hid (∀ s, s < i + 1 → AlgRow p (nx.getD s [])) := Lib.hid (fun s hs => by
                by_cases e : s = i
                · subst e
                  rw [HROW.out]
                  exact ⟨HRL.out, HR.out⟩
                · exact HI.out s (by omega))
              go_wp2_with fail
              go_round
              case rel => exact ⟨i + 1, by omega, by go_num, HI', kr⟩
              case measure => simp [intOf]; omega
        · have hbr : ((row.length : Int) != (p.sv.length : Int)) = true := by rw [bne_iff_ne]; exact hrl
          have HB : Hid (bP (AlgP p nx) = false) := Lib.hid (bP_no (fun e => hrl (by have := (e.2 i hlt).1; rw [HROW.out] at this; omega)))
          clear hrl
          go_wp2_with fail
          go_quiet (fail)
          go_wp2_with fail
          go_ret
          exact ⟨_, rfl, by rw [HB.out]; rfl, k0.keep (kr.keep ((Chg.refl No wr).drewN nq))⟩
      · have hie : i = nx.length := by omega
        subst hie
        have HB : Hid (bP (AlgP p nx) = true) := Lib.hid (bP_yes ⟨HLEN.out, HI.out⟩)
        go_wp2_with fail
        go_ret
        exact ⟨_, rfl, by rw [HB.out]; rfl, k0.keep kr⟩
  · have HB : Hid (bP (AlgP p nx) = false) := Lib.hid (bP_no (fun e => hlen (by rw [e.1])))
    have hbn : ((nx.length : Int) != (p.mv.length : Int)) = true := by rw [bne_iff_ne]; exact hlen
    go_enter Tryz.func42, Tryz.ntmps42
    go_wp2_with fail
    go_ret
    exact ⟨_, rfl, by rw [HB.out]; rfl, (Chg.refl No w).alloc _⟩
end Go.Proofs.YtndhijckbponkaaGreat

/- BestReply, both sides -/
namespace Go.Proofs.YtndhijckbponkaaGreat
open Go.RowKit

theorem drawB_facts {p : Pr} {s : Int} {qs : List (List Int)} {ws : List Int} (h : drawB p s qs ws = true) : PrP p ∧ ChP p.sv.length 12 6 qs ws ∧ 0 ≤ s ∧ s < (p.mv.length : Int) := by
  unfold drawB chaB at h
  rw [Bool.and_eq_true, Bool.and_eq_true] at h
  have h3 := inB_iff.1 h.2
  exact ⟨bP_iff.1 h.1.1, bP_iff.1 h.1.2, h3.1, by omega⟩
end Go.Proofs.YtndhijckbponkaaGreat

/- FnExactBestReply: the law -/
namespace Go.Proofs.YtndhijckbponkaaGreat
open Go.RowKit

theorem wpAnyK_tailL {P : Program} {Q : Exit → Act → World → Prop} {md : Region.Mode} {S : World → Prop} {k : Nat} (n : Nat) {f : Nat} {l : List Oper} {listed : Array Bool} {a : Act} {w : World} (hf : (l.drop n).length = f) (hB : (Region.seqB md l.toArray f n listed && listed.getD k true) = true)
    (h : wpList P l.toArray Q (l.drop n) a w) : wpAnyK P md l.toArray Q S k f listed a w := by
  subst hf
  simp only [Bool.and_eq_true] at hB
  exact wpAnyK_of_any _ _ _ _ hB.2 (wpAny_of_seq (P := P) (md := md) (Q' := Q) (l.drop n) n listed a w (fun j => by simp [List.getElem?_drop]) hB.1 h)
theorem ret2_eq {P : Program} {f : FuncId} {args : Array Value} {w : World} {x y : Value} {C : World → Prop} (h : Calls P f args w (Ret2 fun r0 r1 w' => r0 = x ∧ r1 = y ∧ C w')) : Calls P f args w (Ret fun v w' => v = .tuple #[x, y] ∧ C w') :=
  h.mono fun _ _ ⟨a, b, he, h1, h2, h3⟩ => ⟨_, he, by rw [h1, h2], h3⟩
end Go.Proofs.YtndhijckbponkaaGreat
