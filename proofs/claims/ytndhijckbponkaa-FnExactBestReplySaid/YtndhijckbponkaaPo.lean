import Derived.Test.YtndhijckbponkaaPn
import Derived.Test.YtndhijckbponkaaTy
import Derived.Test.YtndhijckbponkaaCo
/- FnExactBestReply: the law -/
namespace Go.Proofs.Ytndhijckbponkaa
open Go.RowKit

theorem wpAnyK_tailL {P : Program} {Q : Exit → Act → World → Prop} {md : Region.Mode} {S : World → Prop} {k : Nat} (n : Nat) {f : Nat} {l : List Oper} {listed : Array Bool} {a : Act} {w : World} (hf : (l.drop n).length = f) (hB : (Region.seqB md l.toArray f n listed && listed.getD k true) = true)
    (h : wpList P l.toArray Q (l.drop n) a w) : wpAnyK P md l.toArray Q S k f listed a w := by
  subst hf
  simp only [Bool.and_eq_true] at hB
  exact wpAnyK_of_any _ _ _ _ hB.2 (wpAny_of_seq (P := P) (md := md) (Q' := Q) (l.drop n) n listed a w (fun j => by simp [List.getElem?_drop]) hB.1 h)
theorem ret2_eq {P : Program} {f : FuncId} {args : Array Value} {w : World} {x y : Value} {C : World → Prop} (h : Calls P f args w (Ret2 fun r0 r1 w' => r0 = x ∧ r1 = y ∧ C w')) : Calls P f args w (Ret fun v w' => v = .tuple #[x, y] ∧ C w') :=
  h.mono fun _ _ ⟨a, b, he, h1, h2, h3⟩ => ⟨_, he, by rw [h1, h2], h3⟩
set_option maxRecDepth 100000 in
set_option maxHeartbeats 4000000 in
theorem lawReply_all (mv sv : Value) (m s : List (List Int)) (st : Int) (wa : Option Addr) (wn wc : Nat) (qv : Value) (q : List (List Int)) (oa : Option Addr) (on oc : Nat) (w : World) (hm : RIIr No w mv m) (hs : RIIr No w sv s)
    (hwn : wn ≤ 9223372036854775807) (hw : wn ≤ 17592186044416 → ∃ l : List Int, l.length = wn ∧ RI No w (.slice wa wn wc) l) (hq : RIIr No w qv q) (hon : on ≤ 9223372036854775807) (ho : on ≤ 17592186044416 → ∃ l : List Int, l.length = on ∧ RI No w (.slice oa on oc) l) :
    Calls Try.prog 3 #[.agg #[mv, sv], .int .i64 st, .agg #[.slice wa wn wc, qv], .slice oa on oc] w fun e w' => e = .returned (.bool true) ∧ Chg No w w' := by
  obtain ⟨ma, mc, rfl⟩ := hm.shape
  obtain ⟨sa, sc, rfl⟩ := hs.shape
  obtain ⟨qa, qc, rfl⟩ := hq.shape
  have k00 := ((Chg.refl No w).alloc (.cells #[.slice ma m.length mc, .slice sa s.length sc] 24)).alloc (.cells #[.slice wa wn wc, .slice qa q.length qc] 27)
  by_cases hob : (1048576 : Int) < (on : Int)
  · go_enter Try.func3, Try.ntmps3
    go_wp2_with fail
    go_ret
    exact ⟨rfl, k00⟩
  obtain ⟨seen, hol, hseen⟩ := ho (by omega)
  subst hol
  have hseen0 := hseen
  clear ho k00
  go_enter Try.func3, Try.ntmps3
  go_wp2_with fail
  refine bx2 (R := fun W => Calls _ _ _ W _) (fun W0 k0 b0 b1 => ?_)
  refine (szProblem_any _ _ m s 1048576 W0 (hm.keep k0) (hs.keep k0) (by omega) (by omega)).mono ?_
  rintro e w1 ⟨_, rfl, rfl, k1⟩
  have kk := k0.keep k1
  replace b0 := b0.keep k1
  replace b1 := b1.keep k1
  have HZ := Lib.hid (fun h => (szP_in (m := m) (s := s) (left := 1048576) h))
  obtain ⟨z, hz⟩ : ∃ z, szP m s 1048576 = z := ⟨_, rfl⟩
  rw [hz] at HZ ⊢
  clear hz k0 k1
  have g2 := b1.c 0 _ rfl
  have g3 := b1.c 1 _ rfl
  by_cases hzn : z < 0
  ·
    go_wp2_with fail
    go_ret
    exact ⟨rfl, kk⟩
  have ⟨hz1, hz2⟩ := HZ.out (by omega)
  clear HZ
  go_wp2_with fail
  refine (szChances_any wa wn wc _ q z w1 hwn (hq.keep kk) (by omega) (by omega)).mono ?_
  rintro e w2 ⟨_, rfl, rfl, k2⟩
  replace kk := kk.keep k2
  replace b0 := b0.keep k2
  replace b1 := b1.keep k2
  have HY := Lib.hid (fun h => (szC2_in (n := wn) (q := q) (left := z) h))
  obtain ⟨y, hy⟩ : ∃ y, szC2 wn q z = y := ⟨_, rfl⟩
  rw [hy] at HY ⊢
  clear hy k2 g2 g3
  by_cases hyn : y < 0
  ·
    go_wp2_with fail
    go_ret
    exact ⟨rfl, kk⟩
  have ⟨hy1, hy2⟩ := HY.out (by omega)
  clear HY
  obtain ⟨ws, hwl, hws⟩ := hw (by omega)
  subst hwl
  have hM2 : RII No w (.slice ma m.length mc) m := RII.ofRaw hm (by omega) (by omega)
  have hS2 : RII No w (.slice sa s.length sc) s := RII.ofRaw hs (by omega) (by omega)
  have hP : RPr No w (.agg #[.slice ma m.length mc, .slice sa s.length sc]) ⟨m, s⟩ := ⟨_, _, rfl, hM2, hS2⟩
  have hC : RCh No w (.agg #[.slice wa ws.length wc, .slice qa q.length qc]) q ws := ⟨_, _, rfl, hws, RII.ofRaw hq (by omega) (by omega)⟩
  have HP := Lib.hid hP
  have HC := Lib.hid hC
  have HS := Lib.hid hseen0
  clear hw hws hP hC hseen0 hseen hm hs hq hM2 hS2
  go_wp2_with fail
  refine wp_region_K (S := fun W => (W.cell? ⟨w.heap.size, 0, none⟩ = some (.slice ma m.length mc) ∧ W.cell? ⟨w.heap.size, 1, none⟩ = some (.slice sa s.length sc)) ∧ W.cell? ⟨w.heap.size + 1, 0, none⟩ = some (.slice wa ws.length wc) ∧ W.cell? ⟨w.heap.size + 1, 1, none⟩ = some (.slice qa q.length qc)) (k := 7) (by kernel_rfl) ?_
  replace kk := kk.keep (drewN0 _)
  replace b0 := b0.keep (drewN0 _)
  replace b1 := b1.keep (drewN0 _)
  generalize w2.drew = W2 at kk b0 b1 ⊢
  have SF : ∀ W, Chg No W2 W → (W.cell? ⟨w.heap.size, 0, none⟩ = some (.slice ma m.length mc) ∧ W.cell? ⟨w.heap.size, 1, none⟩ = some (.slice sa s.length sc)) ∧ W.cell? ⟨w.heap.size + 1, 0, none⟩ = some (.slice wa ws.length wc) ∧ W.cell? ⟨w.heap.size + 1, 1, none⟩ = some (.slice qa q.length qc) :=
    fun W k => ⟨⟨(b0.keep k).c 0 _ rfl, (b0.keep k).c 1 _ rfl⟩, (b1.keep k).c 0 _ rfl, (b1.keep k).c 1 _ rfl⟩
  have hS := SF _ (Chg.refl No W2)
  refine wpAnyK_takeT 0 (.agg #[.slice ma m.length mc, .slice sa s.length sc]) rfl (by kernel_rfl) (fun _ _ _ h => h) hS rfl (by intro w hSw; go_simp) ?_
  simp only [List.getElem_toArray, List.getElem_cons_zero, Act.put, List.setIfInBounds_toArray, List.set_cons_zero, List.set_cons_succ]
  refine wpAnyK_take0 2 (.int .i64 st) rfl (by kernel_rfl) (fun _ _ _ h => h) hS rfl (by intro w; go_simp) ?_
  simp only [List.getElem_toArray, List.getElem_cons_succ, List.getElem_cons_zero, Act.put, List.setIfInBounds_toArray, List.set_cons_zero, List.set_cons_succ]
  refine wpAnyK_takeT 3 (.agg #[.slice wa ws.length wc, .slice qa q.length qc]) rfl (by kernel_rfl) (fun _ _ _ h => h) hS rfl (by intro w hSw; go_simp) ?_
  simp only [List.getElem_toArray, List.getElem_cons_succ, List.getElem_cons_zero, Act.put, List.setIfInBounds_toArray, List.set_cons_zero, List.set_cons_succ]
  refine wpAnyK_take0 5 (.slice oa seen.length oc) rfl (by kernel_rfl) (fun _ _ _ h => h) hS rfl (by intro w; go_simp) ?_
  simp only [List.getElem_toArray, List.getElem_cons_succ, List.getElem_cons_zero, Act.put, List.setIfInBounds_toArray, List.set_cons_zero, List.set_cons_succ]
  have kq := Chg.refl No W2
  refine wpAnyK_1 1 (by kernel_rfl) (wpOpK' rfl rfl ?_)
  intro K hK
  refine ocall (f := 11) (args := #[.agg #[.slice ma m.length mc, .slice sa s.length sc]]) (by go_simp) (toProblem_any _ ⟨m, s⟩ W2 (HP.out.keep kk)) (fun v3 w3 h3 => hK.out _ _ (SF w3 (kq.keep h3.2)) ?_)
  obtain ⟨r3, k3⟩ := h3
  clear hK K
  simp only [List.getElem_toArray, List.getElem_cons_succ, List.getElem_cons_zero, Act.put, List.setIfInBounds_toArray, List.set_cons_zero, List.set_cons_succ]
  replace kk := kk.keep k3
  replace kq := kq.keep k3
  refine wpAnyK_1 4 (by kernel_rfl) (wpOpK' rfl rfl ?_)
  intro K hK
  refine ocall (f := 12) (args := #[.agg #[.slice wa ws.length wc, .slice qa q.length qc]]) (by go_simp) (toChances_any _ q ws w3 (HC.out.keep kk)) (fun v4 w4 h4 => hK.out _ _ (SF w4 (kq.keep h4.2)) ?_)
  obtain ⟨r4, k4⟩ := h4
  clear hK K
  simp only [List.getElem_toArray, List.getElem_cons_succ, List.getElem_cons_zero, Act.put, List.setIfInBounds_toArray, List.set_cons_zero, List.set_cons_succ]
  replace kk := kk.keep k4
  replace kq := kq.keep k4
  replace r3 := r3.keep k4
  refine wpAnyK_1 6 (by kernel_rfl) (wpOpK' rfl rfl ?_)
  intro K hK
  refine ocall (f := 13) (args := #[.slice oa seen.length oc]) (by go_simp) (toIntS_any No _ seen w4 (HS.out.keep kk)) (fun v5 w5 h5 => hK.out _ _ (SF w5 (kq.keep h5.2)) ?_)
  obtain ⟨r5, k5⟩ := h5
  clear hK K
  simp only [List.getElem_toArray, List.getElem_cons_succ, List.getElem_cons_zero, Act.put, List.setIfInBounds_toArray, List.set_cons_zero, List.set_cons_succ]
  replace kk := kk.keep k5
  replace kq := kq.keep k5
  replace r3 := r3.keep k5
  replace r4 := r4.keep k5
  refine wpAnyK_1 7 (by kernel_rfl) (wpOpK' rfl rfl ?_)
  intro K hK
  refine ocall (f := 10) (args := #[v3, .int .i64 st, v4, v5]) (by go_simp) (ret2_eq (specBestReply_any No No _ _ _ ⟨m, s⟩ st q ws seen w5 r3 r4 r5.readNo)) (fun v6 w6 h6 => hK.out _ _ (SF w6 (kq.keep h6.2)) ?_)
  obtain ⟨r6, k6⟩ := h6
  clear hK K
  simp only [List.getElem_toArray, List.getElem_cons_succ, List.getElem_cons_zero, Act.put, List.setIfInBounds_toArray, List.set_cons_zero, List.set_cons_succ]
  replace kk := kk.keep k6
  replace kq := kq.keep k6
  clear r3 r4 r5
  subst r6
  obtain ⟨rv, hrv⟩ : ∃ rv, repV ⟨m, s⟩ st q ws seen = rv := ⟨_, rfl⟩
  obtain ⟨rb, hrb⟩ : ∃ rb, repB ⟨m, s⟩ st q ws seen = rb := ⟨_, rfl⟩
  have HRV := Lib.hid hrv
  have HRB := Lib.hid hrb
  rw [hrv, hrb]
  clear hrv hrb
  replace hS := SF _ kq
  refine wpAnyK_take0 8 (.tuple #[.int .i64 rv, .bool rb]) rfl (by kernel_rfl) (fun _ _ _ h => h) hS rfl (by intro w; go_simp) ?_
  simp only [List.getElem_toArray, List.getElem_cons_succ, List.getElem_cons_zero, Act.put, List.setIfInBounds_toArray, List.set_cons_zero, List.set_cons_succ]
  refine wpAnyK_take0 9 (.int .i64 rv) rfl (by kernel_rfl) (fun _ _ _ h => h) hS rfl (by intro w; go_simp) ?_
  simp only [List.getElem_toArray, List.getElem_cons_succ, List.getElem_cons_zero, Act.put, List.setIfInBounds_toArray, List.set_cons_zero, List.set_cons_succ]
  refine wpAnyK_take0 10 (.bool rb) rfl (by kernel_rfl) (fun _ _ _ h => h) hS rfl (by intro w; go_simp) ?_
  simp only [List.getElem_toArray, List.getElem_cons_succ, List.getElem_cons_zero, Act.put, List.setIfInBounds_toArray, List.set_cons_zero, List.set_cons_succ]
  refine wpAnyK_tailL 11 rfl (by kernel_rfl) ?_
  simp only [List.drop_succ_cons, List.drop_zero]
  replace b0 := b0.keep kq
  replace b1 := b1.keep kq
  clear SF hS kq
  have g0 := b0.c 0 _ rfl
  have g1 := b0.c 1 _ rfl
  go_wp2_with fail
  refine (toProblem_any _ ⟨m, s⟩ w6 (HP.out.keep kk)).mono ?_
  rintro e w7 ⟨v7, rfl, r7, k7⟩
  have HX := Lib.hid r7
  obtain ⟨xm, xs, rfl, hxm, hxs⟩ := r7
  obtain ⟨xma, xmc, rfl⟩ := hxm.shape
  obtain ⟨xsa, xsc, rfl⟩ := hxs.shape
  have k8 := k7.alloc (.cells #[.slice xma m.length xmc, .slice xsa s.length xsc] 32)
  replace kk := kk.keep k8
  replace b0 := b0.keep k8
  replace b1 := b1.keep k8
  have b2 := BoxN.new w7 #[.slice xma m.length xmc, .slice xsa s.length xsc] 32
  have HX := Lib.hid (HX.out.keep ((Chg.refl No w7).alloc (.cells #[.slice xma m.length xmc, .slice xsa s.length xsc] 32)))
  have g2 := b1.c 0 _ rfl
  have g3 := b1.c 1 _ rfl
  clear g0 g1 k7 k8 hxm hxs
  go_wp2_with fail
  clear g2 g3
  obtain ⟨X0, hX0⟩ : ∃ X0, w7.heap.size = X0 := ⟨_, rfl⟩
  rw [hX0] at b2 ⊢
  clear hX0
  generalize w7.alloc (.cells #[.slice xma m.length xmc, .slice xsa s.length xsc] 32) = W8 at kk b0 b1 b2 HX ⊢
  refine (toChances_any _ q ws W8 (HC.out.keep kk)).mono ?_
  rintro e w9 ⟨v9, rfl, r9, k9⟩
  have HY := Lib.hid r9
  obtain ⟨xw, xq, rfl, hxw, hxq⟩ := r9
  obtain ⟨xwa, xwc, rfl, _⟩ := hxw
  obtain ⟨xqa, xqc, rfl⟩ := hxq.shape
  have k10 := k9.alloc (.cells #[.slice xwa ws.length xwc, .slice xqa q.length xqc] 34)
  replace kk := kk.keep k10
  replace b0 := b0.keep k10
  replace b1 := b1.keep k10
  replace b2 := b2.keep k10
  replace HX := Lib.hid (HX.out.keep k10)
  have b3 := BoxN.new w9 #[.slice xwa ws.length xwc, .slice xqa q.length xqc] 34
  have HY := Lib.hid (HY.out.keep ((Chg.refl No w9).alloc (.cells #[.slice xwa ws.length xwc, .slice xqa q.length xqc] 34)))
  clear k9 k10 hxq
  go_wp2_with fail
  obtain ⟨X1, hX1⟩ : ∃ X1, w9.heap.size = X1 := ⟨_, rfl⟩
  rw [hX1] at b3 ⊢
  clear hX1
  generalize w9.alloc (.cells #[.slice xwa ws.length xwc, .slice xqa q.length xqc] 34) = W10 at kk b0 b1 b2 b3 HX HY ⊢
  refine (toIntS_any No _ seen W10 (HS.out.keep kk)).mono ?_
  rintro e w11 ⟨v11, rfl, o11, k11⟩
  replace kk := kk.keep k11
  replace b0 := b0.keep k11
  replace b1 := b1.keep k11
  replace b2 := b2.keep k11
  replace b3 := b3.keep k11
  replace HX := Lib.hid (HX.out.keep k11)
  replace HY := Lib.hid (HY.out.keep k11)
  have HZ := Lib.hid o11.readNo
  obtain ⟨za, zc, rfl, _⟩ := o11.view
  have g0 := b2.c 0 _ rfl
  have g1 := b2.c 1 _ rfl
  have g2 := b3.c 0 _ rfl
  have g3 := b3.c 1 _ rfl
  clear o11 k11
  go_wp2_with fail
  refine (implBestReply_any No No _ _ _ ⟨m, s⟩ st q ws seen w11 HX.out HY.out HZ.out).mono ?_
  rintro e w12 ⟨_, _, rfl, rfl, rfl, k12⟩
  rw [HRV.out, HRB.out]
  replace kk := kk.keep k12
  replace b0 := b0.keep k12
  replace b1 := b1.keep k12
  replace b2 := b2.keep k12
  replace b3 := b3.keep k12
  replace HX := Lib.hid (HX.out.keep k12)
  replace HY := Lib.hid (HY.out.keep k12)
  replace HZ := Lib.hid (HZ.out.keep k12)
  clear g0 g1 g2 g3 k12
  go_wp2_with fail
  refine wp_region_K (S := fun W => (W.cell? ⟨X0, 0, none⟩ = some (.slice xma m.length xmc) ∧ W.cell? ⟨X0, 1, none⟩ = some (.slice xsa s.length xsc)) ∧ W.cell? ⟨w.heap.size, 0, none⟩ = some (.slice ma m.length mc) ∧ W.cell? ⟨w.heap.size, 1, none⟩ = some (.slice sa s.length sc)) (k := 3) (by kernel_rfl) ?_
  replace kk := kk.keep (drewN0 _)
  replace b0 := b0.keep (drewN0 _)
  replace b1 := b1.keep (drewN0 _)
  replace b2 := b2.keep (drewN0 _)
  replace b3 := b3.keep (drewN0 _)
  replace HX := Lib.hid (HX.out.keep (drewN0 _))
  replace HY := Lib.hid (HY.out.keep (drewN0 _))
  replace HZ := Lib.hid (HZ.out.keep (drewN0 _))
  generalize w12.drew = W13 at kk b0 b1 b2 b3 HX HY HZ ⊢
  have SF : ∀ W, Chg No W13 W → (W.cell? ⟨X0, 0, none⟩ = some (.slice xma m.length xmc) ∧ W.cell? ⟨X0, 1, none⟩ = some (.slice xsa s.length xsc)) ∧ W.cell? ⟨w.heap.size, 0, none⟩ = some (.slice ma m.length mc) ∧ W.cell? ⟨w.heap.size, 1, none⟩ = some (.slice sa s.length sc) :=
    fun W k => ⟨⟨(b2.keep k).c 0 _ rfl, (b2.keep k).c 1 _ rfl⟩, (b0.keep k).c 0 _ rfl, (b0.keep k).c 1 _ rfl⟩
  have hS := SF _ (Chg.refl No W13)
  refine wpAnyK_takeT 0 (.agg #[.slice xma m.length xmc, .slice xsa s.length xsc]) rfl (by kernel_rfl) (fun _ _ _ h => h) hS rfl (by intro w hSw; go_simp) ?_
  simp only [List.getElem_toArray, List.getElem_cons_zero, Act.put, List.setIfInBounds_toArray, List.set_cons_zero, List.set_cons_succ]
  refine wpAnyK_takeT 1 (.agg #[.slice ma m.length mc, .slice sa s.length sc]) rfl (by kernel_rfl) (fun _ _ _ h => h) hS rfl (by intro w hSw; go_simp) ?_
  simp only [List.getElem_toArray, List.getElem_cons_succ, List.getElem_cons_zero, Act.put, List.setIfInBounds_toArray, List.set_cons_zero, List.set_cons_succ]
  refine wpAnyK_1 2 (by kernel_rfl) (wpOpK' rfl rfl ?_)
  intro K hK
  refine ocall (f := 11) (args := #[.agg #[.slice ma m.length mc, .slice sa s.length sc]]) (by go_simp) (toProblem_any _ ⟨m, s⟩ W13 (HP.out.keep kk)) (fun v14 w14 h14 => hK.out _ _ (SF w14 h14.2) ?_)
  obtain ⟨r14, k14⟩ := h14
  clear hK K
  simp only [List.getElem_toArray, List.getElem_cons_succ, List.getElem_cons_zero, Act.put, List.setIfInBounds_toArray, List.set_cons_zero, List.set_cons_succ]
  clear SF hS
  replace kk := kk.keep k14
  replace b0 := b0.keep k14
  replace b1 := b1.keep k14
  replace b2 := b2.keep k14
  replace b3 := b3.keep k14
  replace HX := Lib.hid (HX.out.keep k14)
  replace HY := Lib.hid (HY.out.keep k14)
  replace HZ := Lib.hid (HZ.out.keep k14)
  clear k14
  refine wpAnyK_tail 3 rfl (by kernel_rfl) ?_
  simp only [List.drop_succ_cons, List.drop_zero]
  go_wp2_with fail
  refine (eqProblem_same _ _ ⟨m, s⟩ w14 HX.out r14).mono ?_
  rintro e w15 ⟨_, rfl, rfl, k15⟩
  replace kk := kk.keep k15
  replace b0 := b0.keep k15
  replace b1 := b1.keep k15
  replace b2 := b2.keep k15
  replace b3 := b3.keep k15
  replace HX := Lib.hid (HX.out.keep k15)
  replace HY := Lib.hid (HY.out.keep k15)
  replace HZ := Lib.hid (HZ.out.keep k15)
  clear k15
  go_wp2_with fail
  refine wp_region_K (S := fun W => (W.cell? ⟨X1, 0, none⟩ = some (.slice xwa ws.length xwc) ∧ W.cell? ⟨X1, 1, none⟩ = some (.slice xqa q.length xqc)) ∧ W.cell? ⟨w.heap.size + 1, 0, none⟩ = some (.slice wa ws.length wc) ∧ W.cell? ⟨w.heap.size + 1, 1, none⟩ = some (.slice qa q.length qc)) (k := 3) (by kernel_rfl) ?_
  replace kk := kk.keep (drewN0 _)
  replace b0 := b0.keep (drewN0 _)
  replace b1 := b1.keep (drewN0 _)
  replace b2 := b2.keep (drewN0 _)
  replace b3 := b3.keep (drewN0 _)
  replace HX := Lib.hid (HX.out.keep (drewN0 _))
  replace HY := Lib.hid (HY.out.keep (drewN0 _))
  replace HZ := Lib.hid (HZ.out.keep (drewN0 _))
  generalize w15.drew = W16 at kk b0 b1 b2 b3 HX HY HZ ⊢
  have SF : ∀ W, Chg No W16 W → (W.cell? ⟨X1, 0, none⟩ = some (.slice xwa ws.length xwc) ∧ W.cell? ⟨X1, 1, none⟩ = some (.slice xqa q.length xqc)) ∧ W.cell? ⟨w.heap.size + 1, 0, none⟩ = some (.slice wa ws.length wc) ∧ W.cell? ⟨w.heap.size + 1, 1, none⟩ = some (.slice qa q.length qc) :=
    fun W k => ⟨⟨(b3.keep k).c 0 _ rfl, (b3.keep k).c 1 _ rfl⟩, (b1.keep k).c 0 _ rfl, (b1.keep k).c 1 _ rfl⟩
  have hS := SF _ (Chg.refl No W16)
  refine wpAnyK_takeT 0 (.agg #[.slice xwa ws.length xwc, .slice xqa q.length xqc]) rfl (by kernel_rfl) (fun _ _ _ h => h) hS rfl (by intro w hSw; go_simp) ?_
  simp only [List.getElem_toArray, List.getElem_cons_zero, Act.put, List.setIfInBounds_toArray, List.set_cons_zero, List.set_cons_succ]
  refine wpAnyK_takeT 1 (.agg #[.slice wa ws.length wc, .slice qa q.length qc]) rfl (by kernel_rfl) (fun _ _ _ h => h) hS rfl (by intro w hSw; go_simp) ?_
  simp only [List.getElem_toArray, List.getElem_cons_succ, List.getElem_cons_zero, Act.put, List.setIfInBounds_toArray, List.set_cons_zero, List.set_cons_succ]
  refine wpAnyK_1 2 (by kernel_rfl) (wpOpK' rfl rfl ?_)
  intro K hK
  refine ocall (f := 12) (args := #[.agg #[.slice wa ws.length wc, .slice qa q.length qc]]) (by go_simp) (toChances_any _ q ws W16 (HC.out.keep kk)) (fun v17 w17 h17 => hK.out _ _ (SF w17 h17.2) ?_)
  obtain ⟨r17, k17⟩ := h17
  clear hK K
  simp only [List.getElem_toArray, List.getElem_cons_succ, List.getElem_cons_zero, Act.put, List.setIfInBounds_toArray, List.set_cons_zero, List.set_cons_succ]
  clear SF hS
  replace kk := kk.keep k17
  replace b0 := b0.keep k17
  replace b1 := b1.keep k17
  replace b2 := b2.keep k17
  replace b3 := b3.keep k17
  replace HX := Lib.hid (HX.out.keep k17)
  replace HY := Lib.hid (HY.out.keep k17)
  replace HZ := Lib.hid (HZ.out.keep k17)
  clear k17
  refine wpAnyK_tail 3 rfl (by kernel_rfl) ?_
  simp only [List.drop_succ_cons, List.drop_zero]
  go_wp2_with fail
  refine (eqChances_same _ _ q ws w17 HY.out r17).mono ?_
  rintro e w18 ⟨_, rfl, rfl, k18⟩
  replace kk := kk.keep k18
  replace b0 := b0.keep k18
  replace b1 := b1.keep k18
  replace b2 := b2.keep k18
  replace b3 := b3.keep k18
  replace HX := Lib.hid (HX.out.keep k18)
  replace HY := Lib.hid (HY.out.keep k18)
  replace HZ := Lib.hid (HZ.out.keep k18)
  clear k18
  go_wp2_with fail
  refine (toIntS_any No _ seen w18 (HS.out.keep kk)).mono ?_
  rintro e w19 ⟨v19, rfl, o19, k19⟩
  replace kk := kk.keep k19
  replace b0 := b0.keep k19
  replace b1 := b1.keep k19
  replace b2 := b2.keep k19
  replace b3 := b3.keep k19
  replace HX := Lib.hid (HX.out.keep k19)
  replace HY := Lib.hid (HY.out.keep k19)
  replace HZ := Lib.hid (HZ.out.keep k19)
  have r19 := o19.readNo
  obtain ⟨ya, yc, rfl, _⟩ := o19.view
  clear k19 o19
  go_wp2_with fail
  refine (eqIntS_same No No _ _ seen w19 HZ.out r19).mono ?_
  rintro e w20 ⟨_, rfl, rfl, k20⟩
  replace kk := kk.keep k20
  go_wp2_with fail
  go_ret
  exact ⟨rfl, kk⟩
end Go.Proofs.Ytndhijckbponkaa
