import Derived.Test.YtodnkkmjjlfoiaaCg
import Derived.Test.YtodnkkmjjlfoiaaPk6
import Derived.Test.YtodnkkmjjlfoiaaPk4
/- one more Player (reference) -/
namespace Go.Proofs.Ytodnkkmjjlfoiaa
open Go.RowKit
end Go.Proofs.Ytodnkkmjjlfoiaa

/- an owned Tournament marked -/
namespace Go.Proofs.Ytodnkkmjjlfoiaa
open Go.RowKit
end Go.Proofs.Ytodnkkmjjlfoiaa

/- what a valid Tournament says of its Players (plain) -/
namespace Go.Proofs.Ytodnkkmjjlfoiaa
open Go.RowKit

theorem runC_app (c : Ca) (l m : List Int) : runC c (l ++ m) = runC (runC c l) m := by unfold runC; rw [List.foldl_append]
theorem tour_pl {t : To} (ht : tourB t = true) {i : Nat} (hi : i < t.ps.length) : playB (t.ps.getD i dPl) t.reqs = true := by
  unfold tourB at ht
  simp only [Bool.and_eq_true, List.all_eq_true] at ht
  refine ht.2.2 _ ?_
  rw [List.getD_eq_getElem?_getD, List.getElem?_eq_getElem hi]
  exact List.getElem_mem hi
theorem tour_at {t : To} (ht : tourB t = true) {i : Nat} (hi : i < t.ps.length) : (0 ≤ (t.ps.getD i dPl).frm ∧ (t.ps.getD i dPl).frm ≤ t.reqs.length) ∧ (1 ≤ (t.ps.getD i dPl).ca.pol ∧ (t.ps.getD i dPl).ca.pol ≤ 7) ∧ (1 ≤ (t.ps.getD i dPl).ca.size ∧ (t.ps.getD i dPl).ca.size ≤ 6) := by
  have h1 := tour_pl ht hi
  unfold playB at h1
  simp only [Bool.and_eq_true, inB_iff] at h1
  exact ⟨h1.1.1, h1.1.2.1, h1.1.2.2⟩
end Go.Proofs.Ytodnkkmjjlfoiaa

/- a valid Tournament served again is valid (plain) -/
namespace Go.Proofs.Ytodnkkmjjlfoiaa
open Go.RowKit

theorem sv_of {t : To} (ht : tourB t = true) : Sv t.ps t.reqs := fun i hi => by
  obtain ⟨h1, h2, g1⟩ := tour_at ht hi
  exact ⟨h1, ok_new h2 g1⟩
theorem servedP_nil (f p k : Int) : servedP f p k [] = ⟨f, newC p k, 0⟩ := rfl
theorem stepP_const (c : Ca) (x : Int) : (stepC c x).pol = c.pol ∧ (stepC c x).size = c.size := by
  unfold stepC hitC faultC clockC
  repeat' split
  all_goals exact ⟨rfl, rfl⟩
theorem runP_const (c : Ca) (l : List Int) : (runC c l).pol = c.pol ∧ (runC c l).size = c.size := by
  induction l generalizing c with
  | nil => exact ⟨rfl, rfl⟩
  | cons x l ih =>
    obtain ⟨h1, h2⟩ := ih (stepC c x)
    obtain ⟨h3, h4⟩ := stepP_const c x
    exact ⟨h1.trans h3, h2.trans h4⟩
theorem sameB_self (c : Ca) : sameB c c = true := by simp [sameB]
theorem wantP_want (x : Pl) (l l' : List Int) : wantP (wantP x l) l' = wantP x l' := by
  unfold wantP servedP
  simp only [(runP_const (newC x.ca.pol x.ca.size) (l.drop x.frm.toNat)).1, (runP_const (newC x.ca.pol x.ca.size) (l.drop x.frm.toNat)).2]
  rfl
theorem play_want {x : Pl} {l : List Int} (h1 : inB x.frm 0 l.length = true) (h2 : inB x.ca.pol 1 7 = true) (h3 : inB x.ca.size 1 6 = true) : playB (wantP x l) l = true := by
  have e := wantP_want x l l
  have hc := runP_const (newC x.ca.pol x.ca.size) (l.drop x.frm.toNat)
  have f1 : (wantP x l).frm = x.frm := rfl
  have f2 : (wantP x l).ca.pol = x.ca.pol := hc.1
  have f3 : (wantP x l).ca.size = x.ca.size := hc.2
  unfold playB
  rw [e, f1, f2, f3, h1, h2, h3, sameB_self]
  simp
/-- a valid Tournament with other good requests is valid -/
theorem tour_again {t : To} {l : List Int} (ht : tourB t = true) (hr : reqB t.items l = true) (hf : ∀ i, i < t.ps.length → (t.ps.getD i dPl).frm ≤ l.length) : tourB ⟨t.items, againP t.ps l, l⟩ = true := by
  have ht' := ht
  unfold tourB at ht ⊢
  simp only [Bool.and_eq_true, decide_eq_true_eq, List.all_eq_true] at ht ⊢
  refine ⟨hr, by unfold againP; rw [List.length_map]; exact ht.2.1, fun y hy => ?_⟩
  obtain ⟨x, hx, rfl⟩ := List.mem_map.1 hy
  obtain ⟨i, hi, rfl⟩ := List.getElem_of_mem hx
  obtain ⟨⟨h1, _⟩, h2, g1⟩ := tour_at ht' hi
  have h4 := hf i hi
  have e : t.ps.getD i dPl = t.ps[i] := by rw [List.getD_eq_getElem?_getD, List.getElem?_eq_getElem hi]; rfl
  rw [e] at h1 h2 g1 h4
  exact play_want (inB_iff.2 ⟨h1, h4⟩) (inB_iff.2 h2) (inB_iff.2 g1)
theorem sameB_eq {a b : Ca} (h : sameB a b = true) : a = b := by
  obtain ⟨a1, a2, a3, a4, a5⟩ := a
  obtain ⟨b1, b2, b3, b4, b5⟩ := b
  simp only [sameB, Bool.and_eq_true, beq_iff_eq] at h
  obtain ⟨rfl, rfl, rfl, rfl, rfl⟩ := h
  rfl
theorem want_self {x : Pl} {l : List Int} (h : playB x l = true) : wantP x l = x := by
  unfold playB at h
  simp only [Bool.and_eq_true, beq_iff_eq] at h
  have h3 := sameB_eq h.2.1
  have h2 := h.2.2
  have h4 : (wantP x l).frm = x.frm := rfl
  have e : ∀ a b : Pl, a.frm = b.frm → a.ca = b.ca → a.fa = b.fa → a = b := fun a b p q r => by
    obtain ⟨a1, a2, a3⟩ := a
    obtain ⟨b1, b2, b3⟩ := b
    simp only at p q r
    subst p; subst q; subst r; rfl
  exact e _ _ h4 h3 h2
/-- a valid Tournament served again is itself -/
theorem again_self {t : To} (ht : tourB t = true) : againP t.ps t.reqs = t.ps := by
  unfold tourB at ht
  simp only [Bool.and_eq_true, decide_eq_true_eq, List.all_eq_true] at ht
  unfold againP
  have : ∀ x ∈ t.ps, wantP x t.reqs = x := fun x hx => want_self (ht.2.2 x hx)
  calc t.ps.map (fun x => wantP x t.reqs) = t.ps.map id := List.map_congr_left this
    _ = t.ps := by simp
end Go.Proofs.Ytodnkkmjjlfoiaa

/- the greatest beginning -/
namespace Go.Proofs.Ytodnkkmjjlfoiaa
open Go.RowKit

/-- the greatest place from which one of the first j serves -/
def latT (ps : List Pl) : Nat → Int
  | 0 => 0
  | j + 1 => max (latT ps j) (ps.getD j dPl).frm
theorem latT_lt (ps : List Pl) (n : Int) (hn : 0 < n) (j : Nat) : latT ps j < n ↔ ∀ i, i < j → (ps.getD i dPl).frm < n := by
  induction j with
  | zero => simp [latT]; exact hn
  | succ j ih =>
    unfold latT
    rw [Int.max_lt, ih]
    constructor
    · rintro ⟨h1, h2⟩ i hi
      by_cases e : i = j
      · subst e; exact h2
      · exact h1 i (by omega)
    · intro h
      exact ⟨fun i hi => h i (by omega), h j (by omega)⟩
end Go.Proofs.Ytodnkkmjjlfoiaa

/- a Player looked for by a function -/
namespace Go.Proofs.Ytodnkkmjjlfoiaa
open Go.RowKit

set_option maxRecDepth 100000 in
set_option maxHeartbeats 2000000 in
theorem IndexFuncP_any (v : Value) (ls : List Pl) (w : World) (h : RPS No w v ls) (f : FuncId) (c0 : Value) (p : Pl → Bool)
    (hcf : ∀ x (w : World), (callFunc f #[x, c0]).run Try.prog w = .ok (.enter f #[x, c0]) w)
    (hp : ∀ (x : Pl) pv mv (W : World), Chg No w W → Calls Try.prog f #[.agg #[.int .i64 x.frm, .int .i64 x.ca.pol, .int .i64 x.ca.size, pv, mv, .int .i64 x.ca.hand, .int .i64 x.fa], c0] W (Ret fun r w' => r = .bool (p x) ∧ Chg No W w')) :
    Calls Try.prog 49 #[v, .func (.func f) #[] #[c0]] w (Ret fun r w' => (∃ i : Int, r = .int .i64 i ∧ (0 ≤ i ↔ ∃ j, j < ls.length ∧ p (ls.getD j dPl) = true)) ∧ Chg No w w') := by
  obtain ⟨a, cap, rfl, hcap, hmax, hlen, pf, mf, hl, hcl⟩ := id h
  have HP := Lib.hid hp
  have HC := Lib.hid hcl
  have HL := Lib.hid hl
  clear hp hcl hl
  go_enter Try.func49, Try.ntmps49
  go_wp2_with fail
  go_loopw [4, 8] (fun r z wr => ∃ j : Nat, j ≤ ls.length ∧ z = .int .i64 (j : Int) ∧ r = .int .i64 0 ∧ (∀ i, i < j → p (ls.getD i dPl) = false) ∧ Chg No w wr) (fun _ z _ => ls.length - (intOf z).toNat)
  case atStart => exact ⟨0, Nat.zero_le _, rfl, rfl, fun i hi => absurd hi (Nat.not_lt_zero i), Chg.refl _ _⟩
  case round =>
    obtain ⟨j, hj, rfl, rfl, hno, kk⟩ := hrel
    have HNO := Lib.hid hno
    clear hno
    have hj0 : (0 : Int) ≤ (j : Int) := Int.natCast_nonneg _
    by_cases hlt : j < ls.length
    · obtain ⟨b, off, rfl, _, hb, hcell⟩ := HC.out (by intro e; simp [e] at hlt)
      have h7 := (hcell j hlt).step kk hb (fun e => e)
      obtain ⟨hpj, hmj⟩ := HL.out j hlt
      have hj1 : (j : Int) < (ls.length : Int) := by omega
      have hwj : IntKind.i64.wrap ((j : Int) + 1) = (j : Int) + 1 := IntWalk.i64_in _ (by omega)
      obtain ⟨y, hy⟩ : ∃ y, ls.getD j dPl = y := ⟨_, rfl⟩
      rw [hy] at h7 hpj hmj
      have HY := Lib.hid hy
      generalize pf j = pj at hpj h7
      generalize mf j = mj at hmj h7
      obtain ⟨ya, yn, yc, rfl⟩ := hpj.shape
      obtain ⟨ua, un, uc, rfl⟩ := hmj.shape
      obtain ⟨g0, g1, g2, g3, g4, g5, g6⟩ := id h7
      clear h7 hcell hy hpj hmj
      go_wp2_with fail
      refine (HP.out y _ _ wr kk).mono ?_
      rintro e w' ⟨_, rfl, rfl, k1⟩
      have kk1 := kk.keep k1
      cases hpy : p y
      · have HPY := Lib.hid hpy
        clear hpy
        go_wp2_with fail
        go_round
        case measure => simp [intOf]; omega
        case rel =>
          refine ⟨j + 1, by omega, by go_num, rfl, fun i hi => ?_, kk1⟩
          by_cases e : i = j
          · subst e; rw [HY.out]; exact HPY.out
          · exact HNO.out i (by omega)
      · have HPY := Lib.hid hpy
        clear hpy
        go_wp2_with fail
        go_ret
        exact ⟨_, rfl, ⟨_, rfl, ⟨fun _ => ⟨j, hlt, by rw [HY.out]; exact HPY.out⟩, fun _ => hj0⟩⟩, kk1⟩
    · have hje : j = ls.length := by omega
      subst hje
      go_wp2_with fail
      go_ret
      exact ⟨_, rfl, ⟨_, rfl, ⟨fun e => absurd e (by omega), fun ⟨i, hi, hpi⟩ => absurd hpi (by rw [HNO.out i hi]; simp)⟩⟩, kk⟩

set_option maxRecDepth 100000 in
set_option maxHeartbeats 1000000 in
theorem ContainsFuncP_any (v : Value) (ls : List Pl) (w : World) (h : RPS No w v ls) (f : FuncId) (c0 : Value) (p : Pl → Bool)
    (hcf : ∀ x (w : World), (callFunc f #[x, c0]).run Try.prog w = .ok (.enter f #[x, c0]) w)
    (hp : ∀ (x : Pl) pv mv (W : World), Chg No w W → Calls Try.prog f #[.agg #[.int .i64 x.frm, .int .i64 x.ca.pol, .int .i64 x.ca.size, pv, mv, .int .i64 x.ca.hand, .int .i64 x.fa], c0] W (Ret fun r w' => r = .bool (p x) ∧ Chg No W w')) :
    Calls Try.prog 36 #[v, .func (.func f) #[] #[c0]] w (Ret fun r w' => (∃ b : Bool, r = .bool b ∧ (b = true ↔ ∃ j, j < ls.length ∧ p (ls.getD j dPl) = true)) ∧ Chg No w w') := by
  have HP := Lib.hid hp
  clear hp
  have HC := Lib.hid hcf
  clear hcf
  obtain ⟨pa, pn, pc, rfl⟩ := h.shape
  go_enter Try.func36, Try.ntmps36
  go_wp2_with fail
  refine (IndexFuncP_any _ ls w h f c0 p HC.out HP.out).mono ?_
  rintro e w' ⟨_, rfl, ⟨i, rfl, hi⟩, k1⟩
  by_cases h0 : 0 ≤ i
  · have H := Lib.hid (hi.1 h0)
    clear hi
    go_wp2_with fail
    go_ret
    exact ⟨_, rfl, ⟨true, by simp, ⟨fun _ => H.out, fun _ => rfl⟩⟩, k1⟩
  · have H := Lib.hid (fun e => h0 (hi.2 e))
    clear hi
    go_wp2_with fail
    go_ret
    exact ⟨_, rfl, ⟨false, by simp [h0], ⟨fun e => absurd e (by simp), fun e => absurd e H.out⟩⟩, k1⟩
set_option maxRecDepth 100000 in
set_option maxHeartbeats 1000000 in
theorem undo1_any (x : Pl) (pv mv : Value) (b : Nat) (left : Int) (w : World) (h : w.cell? ⟨b, 0, none⟩ = some (.int .i64 left)) :
    Calls Try.prog 37 #[.agg #[.int .i64 x.frm, .int .i64 x.ca.pol, .int .i64 x.ca.size, pv, mv, .int .i64 x.ca.hand, .int .i64 x.fa], .pointer (some ⟨b, 0, none⟩)] w (Ret fun r w' => r = .bool (decide (left < x.frm)) ∧ Chg No w w') := by
  have hb := World.block_lt_of_cell? w _ h
  have k0 := (Chg.refl No w).alloc (.cells #[.int .i64 x.frm, .int .i64 x.ca.pol, .int .i64 x.ca.size, pv, mv, .int .i64 x.ca.hand, .int .i64 x.fa] 44)
  have h1 := (k0.cellD b 0 hb (fun e => e)).trans h
  have bp := Box7.new w (.int .i64 x.frm) (.int .i64 x.ca.pol) (.int .i64 x.ca.size) pv mv (.int .i64 x.ca.hand) (.int .i64 x.fa) 44
  have g0 := bp.c0
  go_enter Try.func37, Try.ntmps37
  go_wp2_with fail
  go_ret
  exact ⟨_, rfl, rfl, k0⟩
end Go.Proofs.Ytodnkkmjjlfoiaa
