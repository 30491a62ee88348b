import Derived.Test.YtndhijckbponkaaGreatPc
import Derived.Test.YtndhijckbponkaaGreatPkX7
import Derived.Test.YtndhijckbponkaaGreatPkX4
/- valid problems, both sides -/
namespace Go.Proofs.YtndhijckbponkaaGreat
open Go.RowKit

/-- the costs of a request -/
def rowB (n : Nat) (l : List Int) : Bool := decide (l.length = n) && (l.all (fun c => inB c (-1) 20) && l.any (fun c => decide (0 ≤ c)))
theorem rowB_iff {n : Nat} {l : List Int} : rowB n l = true ↔ l.length = n ∧ (∀ s, s < n → -1 ≤ l.getD s 0 ∧ l.getD s 0 ≤ 20) ∧ ∃ s, s < n ∧ 0 ≤ l.getD s 0 := by
  unfold rowB
  rw [Bool.and_eq_true, Bool.and_eq_true, decide_eq_true_eq, any_getD l 0]
  constructor
  · rintro ⟨h1, h2, s, hs, h0⟩
    refine ⟨h1, fun s hs => ?_, s, by omega, by simpa using h0⟩
    rw [List.all_eq_true] at h2
    have hm : l.getD s 0 ∈ l := by
      rw [List.getD_eq_getElem?_getD, List.getElem?_eq_getElem (by omega : s < l.length)]; exact List.getElem_mem _
    exact inB_iff.1 (h2 _ hm)
  · rintro ⟨h1, h2, s, hs, h0⟩
    refine ⟨h1, ?_, s, by omega, by simpa using h0⟩
    rw [List.all_eq_true]
    intro x hx
    obtain ⟨j, hj, rfl⟩ := List.getElem_of_mem hx
    have := h2 j (by omega)
    rw [List.getD_eq_getElem?_getD, List.getElem?_eq_getElem hj] at this
    exact inB_iff.2 this
theorem prP_iff (p : Pr) : PrP p ↔ inB (p.mv.length : Int) 1 4 = true ∧ MetP p.mv ∧ inB (p.sv.length : Int) 1 4 = true ∧ ∀ r, r < p.sv.length → rowB p.mv.length (p.sv.getD r []) = true := by
  rw [inB_iff, inB_iff]
  constructor
  · rintro ⟨⟨h1, h2⟩, h3, ⟨h4, h5⟩, h6⟩
    exact ⟨⟨by omega, by omega⟩, h3, ⟨by omega, by omega⟩, fun r hr => rowB_iff.2 (h6 r hr)⟩
  · rintro ⟨⟨h1, h2⟩, h3, ⟨h4, h5⟩, h6⟩
    exact ⟨⟨by omega, by omega⟩, h3, ⟨by omega, by omega⟩, fun r hr => rowB_iff.1 (h6 r hr)⟩
/-- a Problem as a value -/
def RPr (A : Nat → Prop) (w : World) (v : Value) (p : Pr) : Prop := ∃ mv sv, v = .agg #[mv, sv] ∧ RII A w mv p.mv ∧ RII A w sv p.sv
theorem RPr.step {A T : Nat → Prop} {w w' : World} {v : Value} {p : Pr} (h : RPr A w v p) (hc : Chg T w w') (hT : ∀ k, T k → A k) : RPr A w' v p := by
  obtain ⟨mv, sv, rfl, h1, h2⟩ := h
  exact ⟨mv, sv, rfl, h1.step hc hT, h2.step hc hT⟩
theorem RPr.keep {A : Nat → Prop} {w w' : World} {v : Value} {p : Pr} (h : RPr A w v p) (hc : Chg No w w') : RPr A w' v p := h.step hc (fun _ hk => hk.elim)
theorem RII.shape {A : Nat → Prop} {w : World} {v : Value} {ll : List (List Int)} (h : RII A w v ll) : ∃ a cap, v = .slice a ll.length cap := by
  obtain ⟨a, cap, h, _⟩ := h.view; exact ⟨a, cap, h⟩

set_option maxHeartbeats 400000 in
theorem l6Good_any (A : Nat → Prop) (v : Value) (d : List (List Int)) (w : World) (h : RII A w v d) :
    Calls Tryz.prog 98 #[.agg #[v]] w (Ret fun r w' => r = .bool (bP (MetP d)) ∧ Chg No w w') := by
  have hE : Hid (bP (MetP d) = (bP (TabP d) && bP (DetP d))) := Lib.hid (by rw [← bP_and]; exact congrArg bP (propext (metP_iff d)))
  go_enter Tryz.func98, Tryz.ntmps98
  go_wp2_with fail
  refine bx1 (R := fun W => Calls _ _ _ W _) (fun W0 k0 b0 => ?_)
  refine (l6Table_any A v d W0 (h.keep k0)).mono ?_
  rintro e w1 ⟨_, rfl, rfl, k1⟩
  have g0 := (b0.keep k1).c 0 _ rfl
  cases ht : bP (TabP d)
  · have HT := Lib.hid ht
    clear ht
    go_wp2_with fail
    go_ret
    exact ⟨_, rfl, by rw [hE.out, HT.out]; rfl, k0.keep k1⟩
  · have HT := Lib.hid ht
    clear ht
    go_wp2_with fail
    refine (l6Detour_any A v d w1 ((h.keep k0).keep k1) (bP_iff.1 HT.out)).mono ?_
    rintro e w2 ⟨_, rfl, ⟨a, n, c, rfl, hn⟩, k2⟩
    have HN := Lib.hid hn
    clear hn g0
    go_wp2_with fail
    go_ret
    exact ⟨_, rfl, by rw [hE.out, HT.out, ← HN.out]; rfl, (k0.keep k1).keep k2⟩
set_option maxHeartbeats 400000 in
theorem IsMetric_any (A : Nat → Prop) (v : Value) (d : List (List Int)) (w : World) (h : RII A w v d) :
    Calls Tryz.prog 87 #[.agg #[v]] w (Ret fun r w' => r = .bool (bP (MetP d)) ∧ Chg No w w') := by
  have hE : Hid (bP (MetP d) = (bP (TabP d) && bP (DetP d))) := Lib.hid (by rw [← bP_and]; exact congrArg bP (propext (metP_iff d)))
  go_enter Tryz.func87, Tryz.ntmps87
  go_wp2_with fail
  refine bx1 (R := fun W => Calls _ _ _ W _) (fun W0 k0 b0 => ?_)
  refine (isTable_any A v d W0 (h.keep k0)).mono ?_
  rintro e w1 ⟨_, rfl, rfl, k1⟩
  have g0 := (b0.keep k1).c 0 _ rfl
  cases ht : bP (TabP d)
  · have HT := Lib.hid ht
    clear ht
    go_wp2_with fail
    go_ret
    exact ⟨_, rfl, by rw [hE.out, HT.out]; rfl, k0.keep k1⟩
  · have HT := Lib.hid ht
    clear ht
    go_wp2_with fail
    refine (detour_any A v d w1 ((h.keep k0).keep k1) (bP_iff.1 HT.out)).mono ?_
    rintro e w2 ⟨v0, _, rfl, rfl, k2⟩
    have HD := hE.out
    rw [HT.out] at HD
    have HD := Lib.hid HD
    clear g0
    cases hd : bP (DetP d)
    · rw [hd] at HD
      have HD := Lib.hid HD.out
      clear hd
      go_wp2_with fail
      go_ret
      exact ⟨_, rfl, by rw [HD.out]; rfl, (k0.keep k1).keep k2⟩
    · rw [hd] at HD
      have HD := Lib.hid HD.out
      clear hd
      go_wp2_with fail
      go_ret
      exact ⟨_, rfl, by rw [HD.out]; rfl, (k0.keep k1).keep k2⟩
set_option maxHeartbeats 400000 in
theorem metric_any (a a' : Option Addr) (n n' c c' : Nat) (w : World) :
    Calls Tryz.prog 88 #[.agg #[.slice a n c, .slice a' n' c']] w (Ret fun r w' => r = .agg #[.slice a n c] ∧ Chg No w w') := by
  go_enter Tryz.func88, Tryz.ntmps88
  go_wp2_with fail
  refine bx2 (R := fun W => _) (fun W k0 b0 b1 => ?_)
  have g1 := b1.c 0 _ rfl
  exact bodyPost_ret (v := .agg #[.slice a n c]) (by simp [results, Tryz.results88, go_sem, g1]) rfl ⟨_, rfl, rfl, k0⟩
set_option maxRecDepth 100000 in
set_option maxHeartbeats 1000000 in
theorem l8Request_any (A : Nat → Prop) (v : Value) (l : List Int) (n : Int) (w : World) (h : RI A w v l) :
    Calls Tryz.prog 82 #[.int .i64 n, v] w fun e w' => e = .returned (.bool (((l.length : Int) == n) && (l.all (fun c => inB c (-1) 20) && l.any (fun c => decide (0 ≤ c))))) ∧ w = w' := by
  obtain ⟨a, cap, rfl, hcap, hmax, hlen, _, hc⟩ := h
  go_enter Tryz.func82, Tryz.ntmps82
  go_wp2_with fail
  go_loop [5, 6] (fun b z => ∃ k : Nat, k ≤ l.length ∧ z = .int .i64 (k : Int) ∧ b = .bool ((l.take k).any (fun c => decide (0 ≤ c))) ∧ Hid ((l.take k).all (fun c => inB c (-1) 20) = true)) (fun _ z => l.length - (intOf z).toNat)
  case atStart => exact ⟨0, Nat.zero_le _, rfl, by simp, Lib.hid rfl⟩
  case round =>
    obtain ⟨k, hk, rfl, rfl, HA⟩ := hrel
    have hk0 : (0 : Int) ≤ (k : Int) := Int.natCast_nonneg _
    obtain ⟨can, hcan⟩ : ∃ b, (l.take k).any (fun c => decide (0 ≤ c)) = b := ⟨_, rfl⟩
    rw [hcan]
    have HCAN := Lib.hid hcan
    clear hcan
    by_cases hlt : k < l.length
    · obtain ⟨b, off, rfl, _, _, hcell⟩ := hc (by intro e; simp [e] at hlt)
      have hck := hcell k hlt
      have hs := Lib.hid (any_snoc l (fun c => decide (0 ≤ c)) k hlt)
      have ht := Lib.hid (show (l.take (k + 1)).all (fun c => inB c (-1) 20) = ((l.take k).all (fun c => inB c (-1) 20) && inB l[k] (-1) 20) by rw [List.take_succ_eq_append_getElem hlt, List.all_append]; simp)
      have hw1 : IntKind.i64.wrap ((k : Int) + 1) = (k : Int) + 1 := IntWalk.i64_in _ (by omega)
      have hk1 : (k : Int) < (l.length : Int) := by omega
      have hm : l[k] ∈ l := List.getElem_mem hlt
      obtain ⟨x, hx⟩ : ∃ x, l[k] = x := ⟨_, rfl⟩
      have hgx : l.getD k 0 = x := by rw [List.getD_eq_getElem?_getD, List.getElem?_eq_getElem hlt]; exact hx
      rw [hgx] at hck
      rw [hx] at hs ht hm
      clear hcell hx hgx
      cases h1 : inB x (-1) 20
      · have H1 := Lib.hid h1
        have HQ : Hid (l.all (fun c => inB c (-1) 20) = false) := Lib.hid (by
          cases e : l.all (fun c => inB c (-1) 20)
          · rfl
          · rw [List.all_eq_true] at e; rw [e x hm] at h1; cases h1)
        clear h1
        go_wp2_with fail
        refine (l1In_any _ _ _ _).mono ?_
        rintro e w1 ⟨rfl, rfl⟩
        rw [H1.out]
        go_wp2_with fail
        go_ret
        exact ⟨ret_bool (by rw [HQ.out, Bool.false_and, Bool.and_false]), rfl⟩
      · have H1 := Lib.hid h1
        clear h1
        go_wp2_with fail
        refine (l1In_any _ _ _ _).mono ?_
        rintro e w1 ⟨rfl, rfl⟩
        rw [H1.out]
        cases can
        · go_wp2_with fail
          go_round
          case rel => exact ⟨k + 1, by omega, by go_num, by rw [hs.out, HCAN.out]; rfl, Lib.hid (by rw [ht.out, HA.out, H1.out]; rfl)⟩
          case measure => simp [intOf]; omega
        · go_wp2_with fail
          go_round
          case rel => exact ⟨k + 1, by omega, by go_num, by rw [hs.out, HCAN.out]; rfl, Lib.hid (by rw [ht.out, HA.out, H1.out]; rfl)⟩
          case measure => simp [intOf]; omega
    · have hkl : k = l.length := by omega
      subst hkl
      have e1 := HA.out
      have e2 := HCAN.out
      rw [List.take_length] at e1 e2
      have E1 := Lib.hid e1
      have E2 := Lib.hid e2
      clear e1 e2
      by_cases hn : (l.length : Int) = n
      · subst hn
        go_wp2_with fail
        go_ret
        exact ⟨ret_bool (by rw [E1.out, E2.out]; simp), rfl⟩
      · have hnb : ((l.length : Int) == n) = false := beq_eq_false_iff_ne.2 hn
        have HN := Lib.hid hnb
        clear hnb
        go_wp2_with fail
        go_ret
        exact ⟨ret_bool (by rw [HN.out]; rfl), rfl⟩
end Go.Proofs.YtndhijckbponkaaGreat
