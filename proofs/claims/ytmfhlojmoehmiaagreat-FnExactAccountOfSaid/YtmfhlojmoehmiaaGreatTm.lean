import Derived.Test.YtmfhlojmoehmiaaGreatTj
import Derived.Test.YtmfhlojmoehmiaaGreatMk
/- CruelItem, both sides -/
namespace Go.Proofs.YtmfhlojmoehmiaaGreat
open Go.RowKit

theorem sub_len : ∀ (l m : List Int), l.Nodup → (∀ x, x ∈ l → x ∈ m) → l.length ≤ m.length
  | [], _, _, _ => Nat.zero_le _
  | x :: l, m, hn, h => by
    rw [List.nodup_cons] at hn
    have hx := h x (by simp)
    have h1 := sub_len l (m.erase x) hn.2 (fun y hy => (List.mem_erase_of_ne (fun e => hn.1 (by rw [← e]; exact hy))).2 (h y (by simp [hy])))
    rw [List.length_erase_of_mem hx] at h1
    have := List.length_pos_of_mem hx
    simp only [List.length_cons]
    omega
def upTo (n : Nat) : List Int := (List.range n).map (fun k : Nat => (k : Int))
theorem upTo_mem {n : Nat} {x : Int} : x ∈ upTo n ↔ 0 ≤ x ∧ x < n := by
  simp only [upTo, List.mem_map, List.mem_range]
  constructor
  · rintro ⟨k, hk, rfl⟩; omega
  · intro h; exact ⟨x.toNat, by omega, by omega⟩
theorem upTo_nod (n : Nat) : (upTo n).Nodup := by
  unfold upTo
  rw [List.nodup_iff_pairwise_ne, List.pairwise_map]
  exact (List.nodup_iff_pairwise_ne.1 List.nodup_range).imp (fun h e => h (by omega))
theorem upTo_len (n : Nat) : (upTo n).length = n := by simp [upTo]
/-- the least number that is not in a list -/
def IsMiss (l : List Int) (m : Nat) : Prop := (m : Int) ∉ l ∧ ∀ q : Nat, q < m → (q : Int) ∈ l
theorem miss_to (l : List Int) (n : Nat) : (∀ q : Nat, q < n → (q : Int) ∈ l) ∨ ∃ m, m < n ∧ IsMiss l m := by
  induction n with
  | zero => exact .inl (fun q h => absurd h (Nat.not_lt_zero q))
  | succ n ih =>
    rcases ih with h | ⟨m, h1, h2⟩
    · by_cases hn : (n : Int) ∈ l
      · refine .inl (fun q hq => ?_)
        by_cases e : q = n
        · rw [e]; exact hn
        · exact h q (by omega)
      · exact .inr ⟨n, by omega, hn, h⟩
    · exact .inr ⟨m, by omega, h2⟩
theorem miss_le {l : List Int} {n : Nat} (h : ∀ q : Nat, q < n → (q : Int) ∈ l) : n ≤ l.length := by
  have := sub_len (upTo n) l (upTo_nod n) (fun x hx => by
    have := upTo_mem.1 hx
    have := h x.toNat (by omega)
    rwa [show ((x.toNat : Nat) : Int) = x by omega] at this)
  rwa [upTo_len] at this
theorem miss_ex (l : List Int) : ∃ m, m ≤ l.length ∧ IsMiss l m := by
  rcases miss_to l (l.length + 1) with h | ⟨m, h1, h2⟩
  · have := miss_le h; omega
  · exact ⟨m, by omega, h2⟩
theorem step_mem {c : Ca} (x y : Int) (h : y ∈ (stepC c x).pages) : y ∈ c.pages ∨ y = x := by
  have he : ∀ (l : List Int) (i : Nat), y ∈ l.eraseIdx i → y ∈ l := fun l i h => List.mem_of_mem_eraseIdx h
  unfold stepC at h
  split at h
  · unfold hitC at h
    split at h
    · simp only at h
      rcases List.mem_cons.1 h with e | e
      · left
        by_cases hi : (atI c.pages x).toNat < c.pages.length
        · rw [e]; exact getD_mem hi
        · rename_i hh _
          rcases atI_spec c.pages x with ⟨_, k, hk, hk2⟩ | ⟨h1, _⟩
          · rw [hk2] at hi; omega
          · rw [h1] at hh; cases hh
      · exact .inl (he _ _ e)
    · split at h
      · exact .inl h
      · split at h
        · exact .inl h
        · exact .inl h
  · unfold faultC at h
    split at h
    · unfold clockC at h
      split at h
      · simp only [List.mem_append, List.mem_singleton] at h; exact h
      · simp only at h
        rcases List.mem_or_eq_of_mem_set h with e | e
        · exact .inl e
        · exact .inr e
    · simp only at h
      rcases List.mem_cons.1 h with e | e
      · exact .inr e
      · left
        split at e
        · split at e
          · cases e
          · exact he _ _ e
        · exact e
theorem run_mem (l : List Int) : ∀ (c : Ca) (y : Int), y ∈ (runC c l).pages → y ∈ c.pages ∨ y ∈ l := by
  induction l with
  | nil => intro c y h; exact .inl h
  | cons x l ih =>
    intro c y h
    rcases ih (stepC c x) y h with e | e
    · rcases step_mem x y e with e | e
      · exact .inl e
      · exact .inr (by simp [e])
    · exact .inr (by simp [e])
/-- what a valid Tournament's Players hold -/
theorem tour_pages {t : To} (ht : tourB t = true) {i : Nat} (hi : i < t.ps.length) : (t.ps.getD i dPl).ca.pages.Nodup ∧ ∀ x ∈ (t.ps.getD i dPl).ca.pages, 0 ≤ x ∧ x < t.items := by
  simp only [tourB, reqB, Bool.and_eq_true, decide_eq_true_eq] at ht
  obtain ⟨⟨⟨_, _⟩, hbel⟩, _, hall⟩ := ht
  have hp : playB (t.ps.getD i dPl) t.reqs = true := by
    rw [List.all_eq_true] at hall
    have := hall t.ps[i] (List.getElem_mem hi)
    rwa [List.getD_eq_getElem?_getD, List.getElem?_eq_getElem hi]
  generalize t.ps.getD i dPl = x at hp
  simp only [playB, sameB, Bool.and_eq_true, beq_iff_eq] at hp
  have hpg := hp.2.1.2.2.2.1
  rw [← hpg]
  show (runC (newC x.ca.pol x.ca.size) (t.reqs.drop x.frm.toNat)).pages.Nodup ∧ _
  refine ⟨nod_run (c := newC x.ca.pol x.ca.size) List.nodup_nil _, fun y hy => ?_⟩
  have hy : y ∈ (runC (newC x.ca.pol x.ca.size) (t.reqs.drop x.frm.toNat)).pages := hy
  rcases run_mem _ _ y hy with e | e
  · cases e
  · have hm := List.mem_of_mem_drop e
    simp only [belowB, List.all_eq_true] at hbel
    have := inB_iff.1 (hbel y hm)
    omega
def hasP (t : To) (i : Int) : Bool := inB i 0 ((t.ps.length : Int) - 1)
def okCruel (t : To) (i : Int) : Bool := tourB t && hasP t i && !(((t.ps.getD i.toNat dPl).ca.pages.length : Int) == t.items)
theorem miss_lt {t : To} (ht : tourB t = true) {i : Nat} (hi : i < t.ps.length) {m : Nat} (hm : IsMiss (t.ps.getD i dPl).ca.pages m) : ((m : Int) < t.items) ↔ ¬ (((t.ps.getD i dPl).ca.pages.length : Int) = t.items) := by
  obtain ⟨h1, h2⟩ := tour_pages ht hi
  have hit : 1 ≤ t.items ∧ t.items ≤ 8 := by
    simp only [tourB, reqB, Bool.and_eq_true, inB_iff] at ht; exact ht.1.1.1
  generalize (t.ps.getD i dPl).ca.pages = l at h1 h2 hm
  have hsub : ∀ x, x ∈ l → x ∈ upTo t.items.toNat := fun x hx => upTo_mem.2 (by have := h2 x hx; omega)
  constructor
  · intro hlt e
    have := sub_len ((m : Int) :: l) (upTo t.items.toNat) (List.nodup_cons.2 ⟨hm.1, h1⟩) (fun x hx => by
      rcases List.mem_cons.1 hx with e | e
      · rw [e]; exact upTo_mem.2 (by omega)
      · exact hsub x e)
    rw [upTo_len, List.length_cons] at this
    omega
  · intro hne
    have h3 := sub_len l (upTo t.items.toNat) h1 hsub
    rw [upTo_len] at h3
    by_cases hlt : (m : Int) < t.items
    · exact hlt
    · have := miss_le (l := l) (n := t.items.toNat) (fun q hq => hm.2 q (by omega))
      omega

set_option maxHeartbeats 400000 in
theorem l12Has_any (v : Value) (t : To) (i : Int) (w : World) (h : RT No w v t) :
    Calls Tryz.prog 86 #[v, .int .i64 i] w (Ret fun r w' => r = .bool (hasP t i) ∧ Chg No w w') := by
  obtain ⟨it, ps, rq⟩ := t
  obtain ⟨pv, rv, rfl, hps, hrq⟩ := h
  simp only at hps hrq ⊢
  obtain ⟨ra, rn, rc, rfl⟩ := hrq.shape
  obtain ⟨a, cap, rfl, hcap, hmax, hlen, _⟩ := id hps
  have k0 := (Chg.refl No w).alloc (.cells #[.int .i64 it, .slice a ps.length cap, .slice ra rn rc] 31)
  have hw1 : IntKind.i64.wrap ((ps.length : Int) - 1) = (ps.length : Int) - 1 := IntWalk.i64_in _ (by omega)
  go_enter Tryz.func86, Tryz.ntmps86
  go_wp2_with fail
  refine (l1In_any _ _ _ _).mono ?_
  rintro e w1 ⟨rfl, rfl⟩
  go_wp2_with fail
  go_ret
  exact ⟨_, rfl, rfl, k0⟩

set_option maxHeartbeats 400000 in
theorem isPlayer_any (v : Value) (t : To) (i : Int) (w : World) (h : RT No w v t) :
    Calls Tryz.prog 88 #[v, .int .i64 i] w (Ret fun r w' => r = .bool (hasP t i) ∧ Chg No w w') := by
  obtain ⟨it, ps, rq⟩ := t
  obtain ⟨pv, rv, rfl, hps, hrq⟩ := h
  simp only at hps hrq ⊢
  obtain ⟨ra, rn, rc, rfl⟩ := hrq.shape
  obtain ⟨a, cap, rfl, hcap, hmax, hlen, _⟩ := id hps
  have k0 := (Chg.refl No w).alloc (.cells #[.int .i64 it, .slice a ps.length cap, .slice ra rn rc] 31)
  have hw1 : IntKind.i64.wrap ((ps.length : Int) - 1) = (ps.length : Int) - 1 := IntWalk.i64_in _ (by omega)
  go_enter Tryz.func88, Tryz.ntmps88
  go_wp2_with fail
  refine (within_any _ _ _ _).mono ?_
  rintro e w1 ⟨rfl, rfl⟩
  go_wp2_with fail
  go_ret
  exact ⟨_, rfl, rfl, k0⟩

set_option maxRecDepth 100000 in
set_option maxHeartbeats 1000000 in
theorem l7Missing_any (v : Value) (l : List Int) (m : Nat) (w : World) (h : RI No w v l) (hm : IsMiss l m) :
    Calls Tryz.prog 94 #[v] w fun e w' => e = .returned (.int .i64 (m : Int)) ∧ w = w' := by
  have hml := miss_le hm.2
  have hL := h.len
  obtain ⟨a, n, cap, rfl⟩ := h.shape
  have HM := Lib.hid hm
  clear hm
  go_enter Tryz.func94, Tryz.ntmps94
  go_wp2_with fail
  go_loop [3] (fun i => ∃ j : Nat, j ≤ m ∧ i = .int .i64 j) (fun i => m - (intOf i).toNat)
  case atStart => exact ⟨0, Nat.zero_le _, rfl⟩
  case round =>
    obtain ⟨j, hj, rfl⟩ := hrel
    have hw1 : IntKind.i64.wrap ((j : Int) + 1) = (j : Int) + 1 := IntWalk.i64_in _ (by omega)
    by_cases hlt : j < m
    · have hh : hasB l (j : Int) = true := hasB_true.2 (HM.out.2 j hlt)
      go_wp2_with fail
      refine (l1Has_any No _ l _ _ h).mono ?_
      rintro e w1 ⟨rfl, rfl⟩
      rw [hh]
      go_wp2_with fail
      go_round
      case rel => exact ⟨j + 1, by omega, by go_num⟩
      case measure => simp [intOf]; omega
    · have hjm : j = m := by omega
      subst hjm
      have hh : hasB l (j : Int) = false := hasB_false.2 HM.out.1
      go_wp2_with fail
      refine (l1Has_any No _ l _ _ h).mono ?_
      rintro e w1 ⟨rfl, rfl⟩
      rw [hh]
      go_wp2_with fail
      go_ret
      exact ⟨rfl, rfl⟩

set_option maxRecDepth 100000 in
set_option maxHeartbeats 1000000 in
theorem cruel_any (v : Value) (t : To) (i : Nat) (m : Nat) (w : World) (h : RT No w v t) (hi : i < t.ps.length) (hm : IsMiss (t.ps.getD i dPl).ca.pages m) (hit : 1 ≤ t.items ∧ t.items ≤ 8) :
    Calls Tryz.prog 93 #[v, .int .i64 (i : Int)] w (Ret fun r w' => r = .int .i64 (if (m : Int) < t.items then (m : Int) else -1) ∧ Chg No w w') := by
  obtain ⟨it, ps, rq⟩ := t
  obtain ⟨pv, rv, rfl, hps, hrq⟩ := h
  simp only at hps hrq hi hm hit ⊢
  obtain ⟨ra, rn, rc, rfl⟩ := hrq.shape
  obtain ⟨a, cap, rfl, hcap, hmax, hlen, pf, mf, hl, hcl⟩ := id hps
  obtain ⟨b, off, rfl, _, hb, hcell⟩ := hcl (by intro e; simp [e] at hi)
  have h7 := hcell i hi
  obtain ⟨hpj, _⟩ := hl i hi
  obtain ⟨l, hl2⟩ : ∃ l, (ps.getD i dPl).ca.pages = l := ⟨_, rfl⟩
  rw [hl2] at hm hpj
  have d3 := h7.c3
  generalize pf i = pj at hpj d3
  obtain ⟨ya, yn, yc, rfl⟩ := hpj.shape
  have hi0 : (0 : Int) ≤ (i : Int) := Int.natCast_nonneg _
  have hi1 : (i : Int) < (ps.length : Int) := by omega
  have k0 := (Chg.refl No w).alloc (.cells #[.int .i64 it, .slice (some ⟨b, off, none⟩) ps.length cap, .slice ra rn rc] 31)
  have b0 := Box3.new w (.int .i64 it) (.slice (some ⟨b, off, none⟩) ps.length cap) (.slice ra rn rc) 31
  have HM := Lib.hid hm
  obtain ⟨R, hR⟩ : ∃ R, (if (m : Int) < it then (m : Int) else -1) = R := ⟨_, rfl⟩
  rw [hR]
  have HR := Lib.hid hR
  clear hm h7 hcell hcl hl hl2 hR
  go_enter Tryz.func93, Tryz.ntmps93
  go_wp2_with fail
  go_loopw [8] (fun k wr => ∃ j : Nat, (j : Int) ≤ it ∧ j ≤ m ∧ k = .int .i64 j ∧ Box3 wr w.heap.size (.int .i64 it) (.slice (some ⟨b, off, none⟩) ps.length cap) (.slice ra rn rc) ∧ Chg No w wr) (fun k _ => 9 - (intOf k).toNat)
  case atStart => exact ⟨0, by omega, Nat.zero_le _, rfl, b0, k0⟩
  case round =>
    clear b0 k0
    obtain ⟨j, hj, hjm, rfl, hb3, hch⟩ := hrel
    have hw1 : IntKind.i64.wrap ((j : Int) + 1) = (j : Int) + 1 := IntWalk.i64_in _ (by omega)
    by_cases hlt : (j : Int) < it
    · obtain ⟨c0, c1, c2, _⟩ := id hb3
      have d3 := (hch.cellD b _ hb (fun e => e)).trans d3
      by_cases hjl : j < m
      · have hh : hasB l (j : Int) = true := hasB_true.2 (HM.out.2 j hjl)
        go_wp2_with fail
        refine (Contains_any No _ l _ _ (hpj.keep hch)).mono ?_
        rintro e w1 ⟨rfl, rfl⟩
        rw [hh]
        go_wp2_with fail
        go_round
        case rel => exact ⟨j + 1, by omega, by omega, by go_num, hb3, hch⟩
        case measure => simp [intOf]; omega
      · have hje : j = m := by omega
        subst hje
        have hh : hasB l (j : Int) = false := hasB_false.2 HM.out.1
        have HR2 : Hid (R = (j : Int)) := Lib.hid (by rw [← HR.out, if_pos hlt])
        go_wp2_with fail
        refine (Contains_any No _ l _ _ (hpj.keep hch)).mono ?_
        rintro e w1 ⟨rfl, rfl⟩
        rw [hh]
        go_wp2_with fail
        go_ret
        exact ⟨_, rfl, by rw [HR2.out]; rfl, hch⟩
    · have HR2 : Hid (R = -1) := Lib.hid (by rw [← HR.out, if_neg (by omega)])
      go_wp2_with fail
      go_ret
      exact ⟨_, rfl, by rw [HR2.out]; rfl, hch⟩
end Go.Proofs.YtmfhlojmoehmiaaGreat
