import Derived.Test.YtdgcohoneijleaaGreatAf
import Derived.Test.YtdgcohoneijleaaGreatPkX1
import Derived.Test.YtdgcohoneijleaaGreatUe
/- the metric of one distance: the program's walk -/
namespace Go.Proofs.YtdgcohoneijleaaGreat
open Go.RowKit

set_option maxHeartbeats 400000 in
theorem metricOf_any (v : Value) (D : List (List Int)) (w : World) (h : RII No w v D) (hm : MetP D) :
    Calls Tryz.prog 41 #[v] w (Ret2 fun v0 v1 w' => v0 = .agg #[v] ∧ v1 = .bool true ∧ Chg No w w') := by
  obtain ⟨a, c, rfl⟩ := h.shape
  have HM := Lib.hid hm
  clear hm
  go_enter Tryz.func41, Tryz.ntmps41
  go_wp2_with fail
  refine bx2 (R := fun W => Calls _ _ _ W _) (fun W0 k0 b0 b1 => ?_)
  refine (IsMetric_any No _ D W0 (h.keep k0)).mono ?_
  rintro e w1 ⟨_, rfl, rfl, k1⟩
  rw [bP_iff.2 HM.out]
  have g0 := (b0.keep k1).c 0 _ rfl
  have f0 := (b0.keep k1).fr 0
  have g1 := (b1.keep k1).c 0 _ rfl
  have z0 := ((b0.keep k1).set (i := 0) (by simp) (.slice a D.length c)).c 0 _ rfl
  have kk := (k0.keep k1).setCell (p := ⟨w.heap.size, 0, none⟩) (fun h => by simp at h) (.slice a D.length c)
  clear b0 b1 k0 k1 h
  go_wp2_with fail
  exact bodyPost_ret (v := .tuple #[.agg #[.slice a D.length c], .bool true]) (by simp [results, Tryz.results41, go_sem, z0]) rfl ⟨_, _, rfl, rfl, rfl, kk⟩
theorem uni1_any (x y d : Int) (b : Nat) (w : World) (hb : w.cell? ⟨b, 0, none⟩ = some (.int .i64 d)) :
    Calls Tryz.prog 19 #[.int .i64 x, .int .i64 y, .pointer (some ⟨b, 0, none⟩)] w (Ret fun r w' => r = .int .i64 d ∧ Chg No w w') := by
  go_enter Tryz.func19, Tryz.ntmps19
  go_wp2_with fail
  go_ret
  exact ⟨_, rfl, rfl, Chg.refl _ _⟩
def uniR (n : Nat) (d : Int) (x : Nat) : List Int := (List.range n).map fun y => if x = y then 0 else d
theorem uniT_getD {n : Nat} (d : Int) {x : Nat} : (uniT n d).take (x + 1) = (uniT n d).take x ++ (if x < n then [uniR n d x] else []) := by
  rw [List.take_add_one]
  congr 1
  unfold uniT uniR
  rw [List.getElem?_map]
  by_cases h : x < n
  · rw [List.getElem?_range h, if_pos h]; rfl
  · rw [List.getElem?_eq_none (by simpa using h), if_neg h]; rfl
set_option maxRecDepth 100000 in
set_option maxHeartbeats 2000000 in
theorem metricBy_uni (n : Nat) (d : Int) (b : Nat) (w : World) (hb : w.cell? ⟨b, 0, none⟩ = some (.int .i64 d)) (hn : 1 ≤ n ∧ n ≤ 6) (hd : 1 ≤ d ∧ d ≤ 99) :
    Calls Tryz.prog 18 #[.int .i64 (n : Int), .func (.func 19) #[] #[.pointer (some ⟨b, 0, none⟩)]] w (Ret2 fun v0 v1 w' => (∃ v F, v0 = .agg #[v] ∧ OII w.heap.size w' v (uniT n d) F) ∧ v1 = .bool true ∧ Chg No w w') := by
  have hbl := World.block_lt_of_cell? _ _ hb
  have HM := Lib.hid (uniT_met hn hd)
  have hn6 : n ≤ 6 := hn.2
  clear hn hd
  have b0 := (BoxN.new w #[.slice none 0 0] 31).keep ((Chg.refl No _).alloc (.cells #[] 25))
  have h0 := OII.zero (base := w.heap.size + 1) (w := w.alloc (.cells #[.slice none 0 0] 31)) (by simp)
  have k0 := ((Chg.refl No w).alloc (.cells #[.slice none 0 0] 31)).alloc (.cells #[] 25)
  go_enter Tryz.func18, Tryz.ntmps18
  go_wp2_with fail
  generalize World.alloc (w.alloc _) _ = w0 at b0 h0 k0 ⊢
  simp only [World.size_alloc] at h0 ⊢
  go_loopw [6, 12] (fun o z wr => ∃ (i : Nat) (F : Nat → Prop), i ≤ n ∧ z = .int .i64 (i : Int) ∧ OII (w.heap.size + 1) wr o ((uniT n d).take i) F ∧ BoxN wr w.heap.size [.slice none 0 0] ∧ Chg No w wr) (fun _ z _ => n - (intOf z).toNat)
  case atStart => exact ⟨0, _, Nat.zero_le _, rfl, h0, b0, k0⟩
  case round =>
    clear h0 b0 k0
    obtain ⟨i, F, hi, rfl, hO, b0, kr⟩ := hrel
    have hi0 : (0 : Int) ≤ (i : Int) := Int.natCast_nonneg _
    have hbr := (kr.cellD b 0 hbl (fun e => e)).trans hb
    have hUL : ((uniT n d).take i).length = i := by rw [List.length_take, uniT_len]; omega
    have HST : Hid (i < n → (uniT n d).take (i + 1) = (uniT n d).take i ++ [(uniR n d i).take n]) := Lib.hid (fun h => by
      rw [uniT_getD, if_pos h, List.take_of_length_le (l := uniR n d i) (by simp [uniR])])
    obtain ⟨U, hU⟩ : ∃ U, (uniT n d).take i = U := ⟨_, rfl⟩
    rw [hU] at hO HST hUL
    have HU := Lib.hid hU
    have HUL := Lib.hid hUL
    clear hU hUL
    by_cases hlt : i < n
    · have hi1 : (i : Int) < (n : Int) := by omega
      have hwi : IntKind.i64.wrap ((i : Int) + 1) = (i : Int) + 1 := IntWalk.i64_in _ (by omega)
      have hrz := OI.zero (base := wr.heap.size) (w := wr) (Nat.le_refl _)
      have ka := (Chg.refl No wr).alloc (.cells #[] 3)
      obtain ⟨wo, hwo⟩ : ∃ wo : World, wo = wr := ⟨_, rfl⟩
      obtain ⟨va, vc, rfl⟩ := hO.readNo.shape
      go_wp2_with fail
      rw [← hwo] at hrz ka hO b0 kr hbr ⊢
      clear hwo
      go_loopw [8, 17] (fun o z wq => ∃ (j : Nat), j ≤ n ∧ z = .int .i64 (j : Int) ∧ OI wo.heap.size wq o ((uniR n d i).take j) ∧ Chg No wo wq) (fun _ z _ => n - (intOf z).toNat)
      case atStart => exact ⟨0, Nat.zero_le _, rfl, hrz, ka⟩
      case round =>
        clear hrz ka
        obtain ⟨j, hj, rfl, ho, kq⟩ := hrel
        have hj0 : (0 : Int) ≤ (j : Int) := Int.natCast_nonneg _
        have z1 := kq.size
        have hRL : ((uniR n d i).take j).length = j := by rw [List.length_take]; simp [uniR]; omega
        have HSR : Hid (j < n → (uniR n d i).take (j + 1) = (uniR n d i).take j ++ [if i = j then 0 else d]) := Lib.hid (fun h => by
          rw [List.take_add_one]
          unfold uniR
          rw [List.getElem?_map, List.getElem?_range h]
          rfl)
        obtain ⟨R, hR⟩ : ∃ R, (uniR n d i).take j = R := ⟨_, rfl⟩
        rw [hR] at ho HSR hRL
        have HR := Lib.hid hR
        have hl9 : R.length < 17592186044416 := by omega
        have HRL := Lib.hid hRL
        clear hR hRL
        obtain ⟨oa, oc, rfl, _⟩ := ho.view
        by_cases hltj : j < n
        · have hj1 : (j : Int) < (n : Int) := by omega
          have hwj : IntKind.i64.wrap ((j : Int) + 1) = (j : Int) + 1 := IntWalk.i64_in _ (by omega)
          by_cases hij : i = j
          · subst hij
            go_wp2_with (at_builtin; refine wapp1 rfl (.tmp 23) (.tmp 24) rfl ho rfl rfl hl9 z1 ?_)
            intro v2 w2 h2 k2 f2
            have HS := HSR.out hltj
            simp only [if_true] at HS
            rw [← HS] at h2
            have HS' := Lib.hid h2
            clear HS h2
            go_wp2_with fail
            go_round
            case rel => exact ⟨i + 1, by omega, by go_num, HS'.out, kq.own k2 ho (Nat.le_refl _)⟩
            case measure => simp [intOf]; omega
          · have hne : ¬ ((i : Int) = (j : Int)) := by omega
            have hbq := (kq.cellD b 0 (Nat.lt_of_lt_of_le hbl kr.size) (fun e => e)).trans hbr
            go_wp2_with fail
            refine (uni1_any _ _ d b _ hbq).mono ?_
            rintro e w2 ⟨_, rfl, rfl, k2⟩
            replace ho := ho.keep k2
            replace kq := kq.keep k2
            replace z1 := kq.size
            go_wp2_with (at_builtin; refine wapp1 rfl (.tmp 26) (.tmp 31) rfl ho rfl rfl hl9 z1 ?_)
            intro v2 w3 h2 k3 f2
            have HS := HSR.out hltj
            rw [if_neg hij] at HS
            rw [← HS] at h2
            have HS' := Lib.hid h2
            clear HS h2
            go_wp2_with fail
            go_round
            case rel => exact ⟨j + 1, by omega, by go_num, HS'.out, kq.own k3 ho (Nat.le_refl _)⟩
            case measure => simp [intOf]; omega
        · have hje : j = n := by omega
          subst hje
          have hO2 := hO.keep kq
          have b0q := b0.keep kq
          have hzr := kr.size
          have hbase : w.heap.size + 1 ≤ wr.heap.size := by have := b0q.lt; omega
          have hlen : U.length < 1099511627776 := by rw [HUL.out]; omega
          have hd : ∀ q, own (.slice oa R.length oc) q → ¬ F q := fun q hq hF => by have := (ho.lt q hq).1; have := (hO.lt q hF).2; omega
          have hSl := b0.lt
          go_wp2_with (at_builtin; refine wappR rfl (.tmp 34) (.tmp 36) rfl hO2 (ho.weak (by omega)) hd rfl rfl hlen hbase ?_)
          intro v3 w3 F3 h3 k3 hF3 hFo
          have hnS : ¬ own (.slice va U.length vc) w.heap.size := fun e => by have := (hO2.lt _ (hFo _ e)).1; omega
          have b0' := b0q.step k3 hnS
          have kr' := (kr.keep kq).step k3 (fun q hq hl => by have := (hO2.lt q (hFo q hq)).1; omega)
          have HS := HST.out hlt
          rw [HR.out] at HS
          rw [← HS] at h3
          have HS' := Lib.hid h3
          obtain ⟨v3a, v3c, rfl⟩ := h3.readNo.shape
          clear HS h3 hO2 hd
          go_wp2_with fail
          go_round
          case rel => exact ⟨i + 1, F3, by omega, by go_num, HS'.out, b0', kr'⟩
          case measure => simp [intOf]; omega
    · have hie : i = n := by omega
      subst hie
      have hUe : U = uniT i d := by rw [← HU.out]; exact List.take_of_length_le (by rw [uniT_len]; exact Nat.le_refl _)
      subst hUe
      obtain ⟨va, vc, rfl⟩ := hO.readNo.shape
      have hr := hO.readNo
      have hi1 : ¬ (i : Int) < (i : Int) := by omega
      go_wp2_with fail
      refine (metricOf_any _ (uniT i d) wr hr HM.out).mono ?_
      rintro e w1 ⟨_, _, rfl, rfl, rfl, k1⟩
      have kk := kr.keep k1
      have b1 := b0.keep k1
      have hr1 := hr.keep k1
      have g0 := b1.c 0 _ rfl
      have f0 := b1.fr 0
      have z0 := (b1.set (i := 0) (by simp) (.slice va (uniT i d).length vc)).c 0 _ rfl
      have kk2 := kk.setCell (p := ⟨w.heap.size, 0, none⟩) (fun h => by simp at h) (.slice va (uniT i d).length vc)
      have hr2 := (hO.keep k1).step (chg1 w1 w.heap.size 0 (.slice va (uniT i d).length vc)) (fun q hq e => by have := (hO.lt q hq).1; omega)
      have HRR := Lib.hid (hr2.weak (by omega : w.heap.size ≤ w.heap.size + 1))
      clear hr hr1 hr2 hO b0
      go_wp2_with fail
      exact bodyPost_ret (v := .tuple #[.agg #[.slice va (uniT i d).length vc], .bool true]) (by simp [results, Tryz.results18, go_sem, z0]) rfl ⟨_, _, rfl, ⟨_, F, rfl, HRR.out⟩, rfl, kk2⟩
set_option maxHeartbeats 1000000 in
theorem UniformMetric_any (n : Nat) (d : Int) (w : World) (hn : 1 ≤ n ∧ n ≤ 6) (hd : 1 ≤ d ∧ d ≤ 99) :
    Calls Tryz.prog 8 #[.int .i64 (n : Int), .int .i64 d] w (Ret2 fun v0 v1 w' => (∃ v F, v0 = .agg #[v] ∧ OII w.heap.size w' v (uniT n d) F) ∧ v1 = .bool true ∧ Chg No w w') := by
  have hin1 : inB (n : Int) 1 6 = true := inB_iff.2 (by omega)
  have hin2 : inB d 1 99 = true := inB_iff.2 (by omega)
  have HN := Lib.hid (And.intro hn hd)
  clear hn hd
  go_enter Tryz.func8, Tryz.ntmps8
  go_wp2_with fail
  refine bx2 (R := fun W => Calls _ _ _ W _) (fun W0 k0 b0 b1 => ?_)
  refine (within_any _ _ _ _).mono ?_
  rintro e w1 ⟨rfl, rfl⟩
  rw [hin1]
  have g0 := b0.c 0 _ rfl
  go_wp2_with fail
  refine (within_any _ _ _ _).mono ?_
  rintro e w1 ⟨rfl, rfl⟩
  rw [hin2]
  go_wp2_with fail
  refine (metricBy_uni n d _ W0 g0 HN.out.1 HN.out.2).mono ?_
  rintro e w1 ⟨_, _, rfl, ⟨v, F, rfl, hO⟩, rfl, k1⟩
  have hz := k0.size
  have hz0 := b1.lt
  obtain ⟨va, vc, rfl⟩ := hO.readNo.shape
  have b1' := b1.keep k1
  have g1 := b1'.c 0 _ rfl
  have f1 := b1'.fr 0
  have z1 := (b1'.set (i := 0) (by simp) (.slice va (uniT n d).length vc)).c 0 _ rfl
  have kk := (k0.keep k1).setCell (p := ⟨w.heap.size + 1, 0, none⟩) (fun h => by simp at h; omega) (.slice va (uniT n d).length vc)
  have HO := Lib.hid ((hO.step (chg1 w1 (w.heap.size + 1) 0 (.slice va (uniT n d).length vc)) (fun q hq e => by have := (hO.lt q hq).1; omega)).weak hz)
  clear hO b0 b1 b1' g0 k0 k1 hz hz0
  go_wp2_with fail
  exact bodyPost_ret (v := .tuple #[.agg #[.slice va (uniT n d).length vc], .bool true]) (by simp [results, Tryz.results8, go_sem, z1]) rfl ⟨_, _, rfl, ⟨_, F, rfl, HO.out⟩, rfl, kk⟩
end Go.Proofs.YtdgcohoneijleaaGreat

/- a byte of a code, requests drawn -/
namespace Go.Proofs.YtdgcohoneijleaaGreat
open Go.RowKit

set_option maxRecDepth 100000 in
theorem DrawReqs_any (v : Value) (n : Nat) (w : World) (h : Code w v n) (hn : n ≤ 70001) :
    Calls Tryz.prog 6 #[v] w fun e w' => ∃ (m : Int) (rv : Value) (l : List Int), e = .returned (.tuple #[.int .i64 m, rv]) ∧ OI w.heap.size w' rv l ∧ l.length ≤ 62 ∧ Chg No w w' := by
  obtain ⟨a, cp, rfl⟩ := h.shape
  have k0 := (Chg.refl No w).alloc (.cells #[.slice a n cp, .int .i64 0, .int .u64 0] 50)
  have hc := Cur.new h (by omega) 50
  have q1 := Lib.hid (items_any _ _ _ _ hc (by omega))
  have hz := Lib.hid (World.size_alloc w (.cells #[.slice a n cp, .int .i64 0, .int .u64 0] 50))
  clear h hc
  go_enter Tryz.func6, Tryz.ntmps6
  go_wp2_with (first
    | (go_at_call 15; refine (q1.out).mono ?_; rintro e w1 ⟨m, rfl, hm0, hm1, hc1, hk1⟩; have hs1 := hk1.size; have hz1 := hz.out)
    | (go_at_call 16; refine (requests_any _ _ _ _ _ hc1 (by omega) (by omega)).mono ?_; rintro e w2 ⟨rv, l, rfl, ho, hl, hc2, hk2⟩))
  refine bodyPost_ret (v := .tuple #[.int .i64 m, rv]) (by simp [results, Tryz.results6, go_sem]) rfl ?_
  exact ⟨m, rv, l, rfl, ho.weak (by omega), hl, k0.step (hk1.trans hk2) (fun q hq hlt => by omega)⟩
set_option maxRecDepth 100000 in
theorem vAt_any (v : Value) (n : Nat) (k : Nat) (w : World) (h : Code w v n) (hn : n ≤ 70001) (hk : k ≤ 100) :
    Calls Tryz.prog 5 #[v, .int .i64 (k : Int)] w fun e w' => ∃ x : Int, e = .returned (.int .i64 x) ∧ 0 ≤ x ∧ x ≤ 255 ∧ w' = w := by
  obtain ⟨l, hl, ⟨a, cap, rfl, h1, h2, h3, h4, h5⟩, hx⟩ := h
  have hk0 : (0 : Int) ≤ (k : Int) := Int.natCast_nonneg _
  by_cases hlt : (k : Int) < (n : Int)
  · obtain ⟨b, off, rfl, _, hb, hcell⟩ := h5 (by omega)
    have hkl : k < l.length := by omega
    have hc := hcell k (by rw [List.length_map]; omega)
    have he : (l.map (Value.int .u8)).getD k undef = .int .u8 (l.getD k 0) := by
      rw [List.getD_eq_getElem?_getD, List.getElem?_map, List.getElem?_eq_getElem hkl, List.getD_eq_getElem?_getD, List.getElem?_eq_getElem hkl]
      rfl
    rw [he] at hc
    have hr := hx (l.getD k 0) (by
      rw [List.getD_eq_getElem?_getD, List.getElem?_eq_getElem hkl]
      exact List.getElem_mem hkl)
    obtain ⟨x, hxx⟩ : ∃ x, l.getD k 0 = x := ⟨_, rfl⟩
    rw [hxx] at hc hr
    have hw1 : IntKind.i64.wrap x = x := IntWalk.i64_in _ (by omega)
    clear hcell h5 he hxx
    go_enter Tryz.func5, Tryz.ntmps5
    go_wp2_with fail
    go_ret
    exact ⟨x, rfl, hr.1, hr.2, rfl⟩
  · have hw1 : IntKind.i64.wrap ((k : Int) * 7) = (k : Int) * 7 := IntWalk.i64_in _ (by omega)
    have hw2 : IntKind.i64.wrap ((k : Int) * 7 + (n : Int)) = (k : Int) * 7 + (n : Int) := IntWalk.i64_in _ (by omega)
    have ht := Int.tmod_eq_emod_of_nonneg (a := (k : Int) * 7 + (n : Int)) (b := 256) (by omega)
    clear h5
    go_enter Tryz.func5, Tryz.ntmps5
    go_wp2_with fail
    go_ret
    exact ⟨_, rfl, by omega, by omega, rfl⟩
end Go.Proofs.YtdgcohoneijleaaGreat
