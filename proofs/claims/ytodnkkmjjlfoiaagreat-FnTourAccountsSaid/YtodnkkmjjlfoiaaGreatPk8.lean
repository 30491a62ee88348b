import Derived.Test.YtodnkkmjjlfoiaaGreatTe
import Derived.Test.YtodnkkmjjlfoiaaGreatMk
import Derived.Test.YtodnkkmjjlfoiaaGreatPk7
import Derived.Test.YtodnkkmjjlfoiaaGreatCa
/- CruelItem, both sides -/
namespace Go.Proofs.YtodnkkmjjlfoiaaGreat
open Go.RowKit

theorem sub_len : ∀ (l m : List Int), l.Nodup → (∀ x, x ∈ l → x ∈ m) → l.length ≤ m.length
  | [], _, _, _ => Nat.zero_le _
  | x :: l, m, hn, h => by
    rw [List.nodup_cons] at hn
    have hx := h x (by simp)
    have h1 := sub_len l (m.erase x) hn.2 (fun y hy => (List.mem_erase_of_ne (fun e => hn.1 (by rw [← e]; exact hy))).2 (h y (by simp [hy])))
    rw [List.length_erase_of_mem hx] at h1
    have := List.length_pos_of_mem hx
    simp only [List.length_cons]
    omega
def upTo (n : Nat) : List Int := (List.range n).map (fun k : Nat => (k : Int))
theorem upTo_mem {n : Nat} {x : Int} : x ∈ upTo n ↔ 0 ≤ x ∧ x < n := by
  simp only [upTo, List.mem_map, List.mem_range]
  constructor
  · rintro ⟨k, hk, rfl⟩; omega
  · intro h; exact ⟨x.toNat, by omega, by omega⟩
theorem upTo_nod (n : Nat) : (upTo n).Nodup := by
  unfold upTo
  rw [List.nodup_iff_pairwise_ne, List.pairwise_map]
  exact (List.nodup_iff_pairwise_ne.1 List.nodup_range).imp (fun h e => h (by omega))
theorem upTo_len (n : Nat) : (upTo n).length = n := by simp [upTo]
/-- the least number that is not in a list -/
def IsMiss (l : List Int) (m : Nat) : Prop := (m : Int) ∉ l ∧ ∀ q : Nat, q < m → (q : Int) ∈ l
theorem miss_to (l : List Int) (n : Nat) : (∀ q : Nat, q < n → (q : Int) ∈ l) ∨ ∃ m, m < n ∧ IsMiss l m := by
  induction n with
  | zero => exact .inl (fun q h => absurd h (Nat.not_lt_zero q))
  | succ n ih =>
    rcases ih with h | ⟨m, h1, h2⟩
    · by_cases hn : (n : Int) ∈ l
      · refine .inl (fun q hq => ?_)
        by_cases e : q = n
        · rw [e]; exact hn
        · exact h q (by omega)
      · exact .inr ⟨n, by omega, hn, h⟩
    · exact .inr ⟨m, by omega, h2⟩
theorem miss_le {l : List Int} {n : Nat} (h : ∀ q : Nat, q < n → (q : Int) ∈ l) : n ≤ l.length := by
  have := sub_len (upTo n) l (upTo_nod n) (fun x hx => by
    have := upTo_mem.1 hx
    have := h x.toNat (by omega)
    rwa [show ((x.toNat : Nat) : Int) = x by omega] at this)
  rwa [upTo_len] at this
theorem miss_ex (l : List Int) : ∃ m, m ≤ l.length ∧ IsMiss l m := by
  rcases miss_to l (l.length + 1) with h | ⟨m, h1, h2⟩
  · have := miss_le h; omega
  · exact ⟨m, by omega, h2⟩
theorem step_pages_in {c : Ca} (x y : Int) (h : y ∈ (stepC c x).pages) : y ∈ c.pages ∨ y = x := by
  have he : ∀ (l : List Int) (i : Nat), y ∈ l.eraseIdx i → y ∈ l := fun l i h => List.mem_of_mem_eraseIdx h
  unfold stepC at h
  split at h
  · unfold hitC at h
    split at h
    · simp only at h
      rcases List.mem_cons.1 h with e | e
      · left
        by_cases hi : (atI c.pages x).toNat < c.pages.length
        · rw [e]; exact getD_mem hi
        · rename_i hh _
          rcases atI_spec c.pages x with ⟨_, k, hk, hk2⟩ | ⟨h1, _⟩
          · rw [hk2] at hi; omega
          · rw [h1] at hh; cases hh
      · exact .inl (he _ _ e)
    · split at h
      · exact .inl h
      · split at h
        · exact .inl h
        · exact .inl h
  · unfold faultC at h
    split at h
    · unfold clockC at h
      split at h
      · simp only [List.mem_append, List.mem_singleton] at h; exact h
      · simp only at h
        rcases List.mem_or_eq_of_mem_set h with e | e
        · exact .inl e
        · exact .inr e
    · simp only at h
      rcases List.mem_cons.1 h with e | e
      · exact .inr e
      · left
        split at e
        · split at e
          · cases e
          · exact he _ _ e
        · exact e
theorem run_mem (l : List Int) : ∀ (c : Ca) (y : Int), y ∈ (runC c l).pages → y ∈ c.pages ∨ y ∈ l := by
  induction l with
  | nil => intro c y h; exact .inl h
  | cons x l ih =>
    intro c y h
    rcases ih (stepC c x) y h with e | e
    · rcases step_pages_in x y e with e | e
      · exact .inl e
      · exact .inr (by simp [e])
    · exact .inr (by simp [e])
/-- what a valid Tournament's Players hold -/
theorem tour_pages {t : To} (ht : tourB t = true) {i : Nat} (hi : i < t.ps.length) : (t.ps.getD i dPl).ca.pages.Nodup ∧ ∀ x ∈ (t.ps.getD i dPl).ca.pages, 0 ≤ x ∧ x < t.items := by
  simp only [tourB, reqB, Bool.and_eq_true, decide_eq_true_eq] at ht
  obtain ⟨⟨⟨_, _⟩, hbel⟩, _, hall⟩ := ht
  have hp : playB (t.ps.getD i dPl) t.reqs = true := by
    rw [List.all_eq_true] at hall
    have := hall t.ps[i] (List.getElem_mem hi)
    rwa [List.getD_eq_getElem?_getD, List.getElem?_eq_getElem hi]
  generalize t.ps.getD i dPl = x at hp
  simp only [playB, sameB, Bool.and_eq_true, beq_iff_eq] at hp
  have hpg := hp.2.1.2.2.2.1
  rw [← hpg]
  show (runC (newC x.ca.pol x.ca.size) (t.reqs.drop x.frm.toNat)).pages.Nodup ∧ _
  refine ⟨nod_run (c := newC x.ca.pol x.ca.size) List.nodup_nil _, fun y hy => ?_⟩
  have hy : y ∈ (runC (newC x.ca.pol x.ca.size) (t.reqs.drop x.frm.toNat)).pages := hy
  rcases run_mem _ _ y hy with e | e
  · cases e
  · have hm := List.mem_of_mem_drop e
    simp only [belowB, List.all_eq_true] at hbel
    have := inB_iff.1 (hbel y hm)
    omega
def hasP (t : To) (i : Int) : Bool := inB i 0 ((t.ps.length : Int) - 1)
def okCruel (t : To) (i : Int) : Bool := tourB t && hasP t i && !(((t.ps.getD i.toNat dPl).ca.pages.length : Int) == t.items)
theorem miss_lt {t : To} (ht : tourB t = true) {i : Nat} (hi : i < t.ps.length) {m : Nat} (hm : IsMiss (t.ps.getD i dPl).ca.pages m) : ((m : Int) < t.items) ↔ ¬ (((t.ps.getD i dPl).ca.pages.length : Int) = t.items) := by
  obtain ⟨h1, h2⟩ := tour_pages ht hi
  have hit : 1 ≤ t.items ∧ t.items ≤ 8 := by
    simp only [tourB, reqB, Bool.and_eq_true, inB_iff] at ht; exact ht.1.1.1
  generalize (t.ps.getD i dPl).ca.pages = l at h1 h2 hm
  have hsub : ∀ x, x ∈ l → x ∈ upTo t.items.toNat := fun x hx => upTo_mem.2 (by have := h2 x hx; omega)
  constructor
  · intro hlt e
    have := sub_len ((m : Int) :: l) (upTo t.items.toNat) (List.nodup_cons.2 ⟨hm.1, h1⟩) (fun x hx => by
      rcases List.mem_cons.1 hx with e | e
      · rw [e]; exact upTo_mem.2 (by omega)
      · exact hsub x e)
    rw [upTo_len, List.length_cons] at this
    omega
  · intro hne
    have h3 := sub_len l (upTo t.items.toNat) h1 hsub
    rw [upTo_len] at h3
    by_cases hlt : (m : Int) < t.items
    · exact hlt
    · have := miss_le (l := l) (n := t.items.toNat) (fun q hq => hm.2 q (by omega))
      omega

set_option maxHeartbeats 400000 in
theorem l12Has_any (v : Value) (t : To) (i : Int) (w : World) (h : RT No w v t) :
    Calls Tryz.prog 68 #[v, .int .i64 i] w (Ret fun r w' => r = .bool (hasP t i) ∧ Chg No w w') := by
  obtain ⟨it, ps, rq⟩ := t
  obtain ⟨pv, rv, rfl, hps, hrq⟩ := h
  simp only at hps hrq ⊢
  obtain ⟨ra, rn, rc, rfl⟩ := hrq.shape
  obtain ⟨a, cap, rfl, hcap, hmax, hlen, _⟩ := id hps
  have k0 := (Chg.refl No w).alloc (.cells #[.int .i64 it, .slice a ps.length cap, .slice ra rn rc] 31)
  have hw1 : IntKind.i64.wrap ((ps.length : Int) - 1) = (ps.length : Int) - 1 := IntWalk.i64_in _ (by omega)
  go_enter Tryz.func68, Tryz.ntmps68
  go_wp2_with fail
  refine (l1In_any _ _ _ _).mono ?_
  rintro e w1 ⟨rfl, rfl⟩
  go_wp2_with fail
  go_ret
  exact ⟨_, rfl, rfl, k0⟩

set_option maxHeartbeats 400000 in
theorem isPlayer_any (v : Value) (t : To) (i : Int) (w : World) (h : RT No w v t) :
    Calls Tryz.prog 65 #[v, .int .i64 i] w (Ret fun r w' => r = .bool (hasP t i) ∧ Chg No w w') := by
  obtain ⟨it, ps, rq⟩ := t
  obtain ⟨pv, rv, rfl, hps, hrq⟩ := h
  simp only at hps hrq ⊢
  obtain ⟨ra, rn, rc, rfl⟩ := hrq.shape
  obtain ⟨a, cap, rfl, hcap, hmax, hlen, _⟩ := id hps
  have k0 := (Chg.refl No w).alloc (.cells #[.int .i64 it, .slice a ps.length cap, .slice ra rn rc] 31)
  have hw1 : IntKind.i64.wrap ((ps.length : Int) - 1) = (ps.length : Int) - 1 := IntWalk.i64_in _ (by omega)
  go_enter Tryz.func65, Tryz.ntmps65
  go_wp2_with fail
  refine (within_any _ _ _ _).mono ?_
  rintro e w1 ⟨rfl, rfl⟩
  go_wp2_with fail
  go_ret
  exact ⟨_, rfl, rfl, k0⟩

set_option maxRecDepth 100000 in
set_option maxHeartbeats 1000000 in
theorem l7Missing_any (v : Value) (l : List Int) (m : Nat) (w : World) (h : RI No w v l) (hm : IsMiss l m) :
    Calls Tryz.prog 71 #[v] w fun e w' => e = .returned (.int .i64 (m : Int)) ∧ w = w' := by
  have hml := miss_le hm.2
  have hL := h.len
  obtain ⟨a, n, cap, rfl⟩ := h.shape
  have HM := Lib.hid hm
  clear hm
  go_enter Tryz.func71, Tryz.ntmps71
  go_wp2_with fail
  go_loop [3] (fun i => ∃ j : Nat, j ≤ m ∧ i = .int .i64 j) (fun i => m - (intOf i).toNat)
  case atStart => exact ⟨0, Nat.zero_le _, rfl⟩
  case round =>
    obtain ⟨j, hj, rfl⟩ := hrel
    have hw1 : IntKind.i64.wrap ((j : Int) + 1) = (j : Int) + 1 := IntWalk.i64_in _ (by omega)
    by_cases hlt : j < m
    · have hh : hasB l (j : Int) = true := hasB_true.2 (HM.out.2 j hlt)
      go_wp2_with fail
      refine (l1Has_any No _ l _ _ h).mono ?_
      rintro e w1 ⟨rfl, rfl⟩
      rw [hh]
      go_wp2_with fail
      go_round
      case rel => exact ⟨j + 1, by omega, by go_num⟩
      case measure => simp [intOf]; omega
    · have hjm : j = m := by omega
      subst hjm
      have hh : hasB l (j : Int) = false := hasB_false.2 HM.out.1
      go_wp2_with fail
      refine (l1Has_any No _ l _ _ h).mono ?_
      rintro e w1 ⟨rfl, rfl⟩
      rw [hh]
      go_wp2_with fail
      go_ret
      exact ⟨rfl, rfl⟩

set_option maxRecDepth 100000 in
set_option maxHeartbeats 1000000 in
theorem cruel_any (v : Value) (t : To) (i : Nat) (m : Nat) (w : World) (h : RT No w v t) (hi : i < t.ps.length) (hm : IsMiss (t.ps.getD i dPl).ca.pages m) (hit : 1 ≤ t.items ∧ t.items ≤ 8) :
    Calls Tryz.prog 70 #[v, .int .i64 (i : Int)] w (Ret fun r w' => r = .int .i64 (if (m : Int) < t.items then (m : Int) else -1) ∧ Chg No w w') := by
  obtain ⟨it, ps, rq⟩ := t
  obtain ⟨pv, rv, rfl, hps, hrq⟩ := h
  simp only at hps hrq hi hm hit ⊢
  obtain ⟨ra, rn, rc, rfl⟩ := hrq.shape
  obtain ⟨a, cap, rfl, hcap, hmax, hlen, pf, mf, hl, hcl⟩ := id hps
  obtain ⟨b, off, rfl, _, hb, hcell⟩ := hcl (by intro e; simp [e] at hi)
  have h7 := hcell i hi
  obtain ⟨hpj, _⟩ := hl i hi
  obtain ⟨l, hl2⟩ : ∃ l, (ps.getD i dPl).ca.pages = l := ⟨_, rfl⟩
  rw [hl2] at hm hpj
  have d3 := h7.c3
  generalize pf i = pj at hpj d3
  obtain ⟨ya, yn, yc, rfl⟩ := hpj.shape
  have hi0 : (0 : Int) ≤ (i : Int) := Int.natCast_nonneg _
  have hi1 : (i : Int) < (ps.length : Int) := by omega
  have k0 := (Chg.refl No w).alloc (.cells #[.int .i64 it, .slice (some ⟨b, off, none⟩) ps.length cap, .slice ra rn rc] 31)
  have b0 := Box3.new w (.int .i64 it) (.slice (some ⟨b, off, none⟩) ps.length cap) (.slice ra rn rc) 31
  have HM := Lib.hid hm
  obtain ⟨R, hR⟩ : ∃ R, (if (m : Int) < it then (m : Int) else -1) = R := ⟨_, rfl⟩
  rw [hR]
  have HR := Lib.hid hR
  clear hm h7 hcell hcl hl hl2 hR
  go_enter Tryz.func70, Tryz.ntmps70
  go_wp2_with fail
  go_loopw [8] (fun k wr => ∃ j : Nat, (j : Int) ≤ it ∧ j ≤ m ∧ k = .int .i64 j ∧ Box3 wr w.heap.size (.int .i64 it) (.slice (some ⟨b, off, none⟩) ps.length cap) (.slice ra rn rc) ∧ Chg No w wr) (fun k _ => 9 - (intOf k).toNat)
  case atStart => exact ⟨0, by omega, Nat.zero_le _, rfl, b0, k0⟩
  case round =>
    clear b0 k0
    obtain ⟨j, hj, hjm, rfl, hb3, hch⟩ := hrel
    have hw1 : IntKind.i64.wrap ((j : Int) + 1) = (j : Int) + 1 := IntWalk.i64_in _ (by omega)
    by_cases hlt : (j : Int) < it
    · obtain ⟨c0, c1, c2, _⟩ := id hb3
      have d3 := (hch.cellD b _ hb (fun e => e)).trans d3
      by_cases hjl : j < m
      · have hh : hasB l (j : Int) = true := hasB_true.2 (HM.out.2 j hjl)
        go_wp2_with fail
        refine (Contains_any No _ l _ _ (hpj.keep hch)).mono ?_
        rintro e w1 ⟨rfl, rfl⟩
        rw [hh]
        go_wp2_with fail
        go_round
        case rel => exact ⟨j + 1, by omega, by omega, by go_num, hb3, hch⟩
        case measure => simp [intOf]; omega
      · have hje : j = m := by omega
        subst hje
        have hh : hasB l (j : Int) = false := hasB_false.2 HM.out.1
        have HR2 : Hid (R = (j : Int)) := Lib.hid (by rw [← HR.out, if_pos hlt])
        go_wp2_with fail
        refine (Contains_any No _ l _ _ (hpj.keep hch)).mono ?_
        rintro e w1 ⟨rfl, rfl⟩
        rw [hh]
        go_wp2_with fail
        go_ret
        exact ⟨_, rfl, by rw [HR2.out]; rfl, hch⟩
    · have HR2 : Hid (R = -1) := Lib.hid (by rw [← HR.out, if_neg (by omega)])
      go_wp2_with fail
      go_ret
      exact ⟨_, rfl, by rw [HR2.out]; rfl, hch⟩
end Go.Proofs.YtodnkkmjjlfoiaaGreat

/- a step of a Tournament (plain) -/
namespace Go.Proofs.YtodnkkmjjlfoiaaGreat
open Go.RowKit

noncomputable def missOf (l : List Int) : Nat := Classical.choose (miss_ex l)
theorem missOf_spec (l : List Int) : IsMiss l (missOf l) := (Classical.choose_spec (miss_ex l)).2
/-- what a cruel asker asks of a Cache -/
noncomputable def cruelI (c : Ca) : Nat → List Int
  | 0 => []
  | n + 1 => cruelI c n ++ [(missOf (runC c (cruelI c n)).pages : Int)]
theorem cruelI_len (c : Ca) (n : Nat) : (cruelI c n).length = n := by
  induction n with
  | zero => rfl
  | succ n ih => simp [cruelI, ih]
theorem runC_one (c : Ca) (l : List Int) (x : Int) : runC c (l ++ [x]) = stepC (runC c l) x := by rw [runC_app]; rfl
def againT (t : To) (l : List Int) : To := ⟨t.items, againP t.ps l, l⟩
theorem againP_len (ps : List Pl) (l : List Int) : (againP ps l).length = ps.length := by simp [againP]
theorem againP_get (ps : List Pl) (l : List Int) (i : Nat) (hi : i < ps.length) : (againP ps l).getD i dPl = wantP (ps.getD i dPl) l := by
  unfold againP
  simp only [List.getD_eq_getElem?_getD, List.getElem?_map, List.getElem?_eq_getElem hi]; rfl
theorem againT_self {t : To} (ht : tourB t = true) : againT t t.reqs = t := by
  unfold againT; rw [again_self ht]
/-- the Cache of a Player behind more requests -/
theorem ca_again {t : To} (ht : tourB t = true) {i : Nat} (hi : i < t.ps.length) (l : List Int) : ((againT t (t.reqs ++ l)).ps.getD i dPl).ca = runC (t.ps.getD i dPl).ca l := by
  obtain ⟨⟨h1, h2⟩, _⟩ := tour_at ht hi
  have e0 : ((againT t t.reqs).ps.getD i dPl).ca = (t.ps.getD i dPl).ca := by rw [againT_self ht]
  simp only [againT] at e0 ⊢
  rw [againP_get _ _ _ hi] at e0 ⊢
  unfold wantP servedP at e0 ⊢
  simp only at e0 ⊢
  rw [List.drop_append_of_le_length (by omega), runC_app, e0]
theorem again_size {t : To} (l : List Int) {i : Nat} (hi : i < t.ps.length) : ((againT t l).ps.getD i dPl).ca.size = (t.ps.getD i dPl).ca.size := by
  simp only [againT]; rw [againP_get _ _ _ hi]; unfold wantP servedP; exact (runP_const _ _).2
theorem reqB_snoc {n : Int} {l m : List Int} (h : reqB n l = true) (hl : l.length + m.length ≤ 60) (hm : ∀ x ∈ m, 0 ≤ x ∧ x < n) : reqB n (l ++ m) = true := by
  unfold reqB at h ⊢
  simp only [Bool.and_eq_true, decide_eq_true_eq, belowB, List.all_eq_true] at h ⊢
  refine ⟨⟨h.1.1, by simp; omega⟩, fun x hx => ?_⟩
  rcases List.mem_append.1 hx with hx | hx
  · exact h.2 x hx
  · have := hm x hx
    exact inB_iff.2 ⟨this.1, by omega⟩
theorem tour_reqB {t : To} (ht : tourB t = true) : reqB t.items t.reqs = true := by
  unfold tourB at ht; simp only [Bool.and_eq_true] at ht; exact ht.1
theorem tour_len {t : To} (ht : tourB t = true) : t.ps.length ≤ 4 ∧ t.reqs.length ≤ 60 ∧ 1 ≤ t.items ∧ t.items ≤ 8 := by
  unfold tourB reqB at ht; simp only [Bool.and_eq_true, decide_eq_true_eq, inB_iff] at ht
  exact ⟨ht.2.1, ht.1.1.2, ht.1.1.1⟩
theorem tour_ok {t : To} (ht : tourB t = true) {i : Nat} (hi : i < t.ps.length) : Ok (t.ps.getD i dPl).ca := by
  have h1 := want_self (tour_pl ht hi)
  obtain ⟨_, h2, g1⟩ := tour_at ht hi
  rw [← h1]
  exact ok_run (ok_new h2 g1) _
theorem cruel_facts {t : To} (ht : tourB t = true) {i : Nat} (hi : i < t.ps.length) (hs : (t.ps.getD i dPl).ca.size < t.items) (n : Nat) (hn : t.reqs.length + n ≤ 60) :
    (∀ x ∈ cruelI (t.ps.getD i dPl).ca n, 0 ≤ x ∧ x < t.items) ∧ tourB (againT t (t.reqs ++ cruelI (t.ps.getD i dPl).ca n)) = true := by
  induction n with
  | zero =>
    refine ⟨fun x hx => absurd hx (List.not_mem_nil), ?_⟩
    simp only [cruelI, List.append_nil]
    rw [againT_self ht]; exact ht
  | succ n ih =>
    obtain ⟨h1, h2⟩ := ih (by omega)
    have hi' : i < (againT t (t.reqs ++ cruelI (t.ps.getD i dPl).ca n)).ps.length := by simp only [againT]; rw [againP_len]; exact hi
    have hca := ca_again ht hi (cruelI (t.ps.getD i dPl).ca n)
    have hm := miss_lt h2 hi' (missOf_spec _)
    have hok := (tour_ok h2 hi').len
    rw [again_size _ hi] at hok
    have hit : (againT t (t.reqs ++ cruelI (t.ps.getD i dPl).ca n)).items = t.items := rfl
    rw [hit] at hm
    have hlt := hm.2 (by omega)
    rw [hca] at hlt
    have h3 : ∀ x ∈ cruelI (t.ps.getD i dPl).ca (n + 1), 0 ≤ x ∧ x < t.items := fun x hx => by
      simp only [cruelI] at hx
      rcases List.mem_append.1 hx with hx | hx
      · exact h1 x hx
      · rw [List.mem_singleton.1 hx]
        exact ⟨Int.natCast_nonneg _, hlt⟩
    refine ⟨h3, tour_again ht (reqB_snoc (tour_reqB ht) (by rw [cruelI_len]; omega) h3) (fun k hk => ?_)⟩
    have := (tour_at ht hk).1.2
    rw [List.length_append]; omega

/-- a step with one number at most is possible -/
def okPlain (t : To) (k a b : Int) : Bool := (b == 0) && (
    if k = 2 then inB a 0 (t.items - 1) && decide (t.reqs.length < 60)
    else if k = 3 then hasP t a
    else if k = 4 then (a == 0) && (decide (0 < t.reqs.length) && decide (latT t.ps t.ps.length < (t.reqs.length : Int)))
    else if k = 5 then inB a 1 t.reqs.length && decide ((t.reqs.length : Int) + a ≤ 60)
    else (k == 7) && (a == 0))
/-- a step is possible -/
def okStep (t : To) (k a b : Int) : Bool :=
  if k = 1 then okJoin t a b
  else if k = 6 then hasP t a && (decide ((t.ps.getD a.toNat dPl).ca.size < t.items) && inB b 1 (60 - (t.reqs.length : Int)))
  else okPlain t k a b
def leaveT (t : To) (a : Int) : To := ⟨t.items, (againP t.ps t.reqs).eraseIdx a.toNat, t.reqs⟩
/-- behind it -/
noncomputable def stepT (t : To) (k a b : Int) : To :=
  if k = 1 then joinT t a b
  else if k = 6 then againT t (t.reqs ++ cruelI (t.ps.getD a.toNat dPl).ca b.toNat)
  else if k = 2 then againT t (t.reqs ++ [a])
  else if k = 3 then leaveT t a
  else if k = 4 then againT t (t.reqs.take (t.reqs.length - 1))
  else if k = 5 then againT t (t.reqs ++ t.reqs.drop (t.reqs.length - a.toNat))
  else ⟨t.items, clearP t.ps, []⟩
theorem tour_mk {n : Int} {ps : List Pl} {l : List Int} (h1 : reqB n l = true) (h2 : ps.length ≤ 4) (h3 : ∀ x ∈ ps, playB x l = true) : tourB ⟨n, ps, l⟩ = true := by
  unfold tourB
  simp only [Bool.and_eq_true, decide_eq_true_eq, List.all_eq_true]
  exact ⟨h1, h2, h3⟩
theorem tour_again_self {t : To} (ht : tourB t = true) : tourB (againT t t.reqs) = true := by rw [againT_self ht]; exact ht
theorem tour_all {t : To} (ht : tourB t = true) : ∀ x ∈ t.ps, playB x t.reqs = true := by
  unfold tourB at ht; simp only [Bool.and_eq_true, List.all_eq_true] at ht; exact ht.2.2
theorem play_served {f p k : Int} {l : List Int} (hf : 0 ≤ f ∧ f ≤ l.length) (hp : 1 ≤ p ∧ p ≤ 7) (hk : 1 ≤ k ∧ k ≤ 6) (hd : l.drop f.toNat = []) : playB (servedP f p k []) l = true := by
  have := play_want (x := ⟨f, newC p k, 0⟩) (l := l) (inB_iff.2 hf) (inB_iff.2 hp) (inB_iff.2 hk)
  unfold wantP at this
  simp only [hd] at this
  exact this
theorem tour_step {t : To} (ht : tourB t = true) (k a b : Int) (hok : okStep t k a b = true) : tourB (stepT t k a b) = true := by
  obtain ⟨hl1, hl2, hl3, hl4⟩ := tour_len ht
  unfold okStep at hok
  unfold stepT
  by_cases e1 : k = 1
  · rw [if_pos e1] at hok ⊢
    unfold okJoin at hok
    simp only [Bool.and_eq_true, decide_eq_true_eq, inB_iff] at hok
    unfold joinT
    refine tour_mk (tour_reqB ht) (by rw [List.length_append, againP_len]; simp; omega) (fun x hx => ?_)
    rcases List.mem_append.1 hx with hx | hx
    · exact tour_all (tour_again_self ht) x hx
    · rw [List.mem_singleton.1 hx]
      exact play_served ⟨Int.natCast_nonneg _, Int.le_refl _⟩ hok.1 hok.2.1 (by simp)
  rw [if_neg e1] at hok ⊢
  by_cases e6 : k = 6
  · rw [if_pos e6] at hok ⊢
    unfold hasP at hok
    simp only [Bool.and_eq_true, decide_eq_true_eq, inB_iff] at hok
    exact (cruel_facts ht (i := a.toNat) (by omega) hok.2.1 b.toNat (by omega)).2
  rw [if_neg e6] at hok ⊢
  unfold okPlain at hok
  simp only [Bool.and_eq_true, beq_iff_eq] at hok
  obtain ⟨_, hok⟩ := hok
  by_cases e2 : k = 2
  · rw [if_pos e2] at hok ⊢
    simp only [Bool.and_eq_true, decide_eq_true_eq, inB_iff] at hok
    exact tour_again ht (reqB_snoc (tour_reqB ht) (by simp; omega) (fun x hx => by rw [List.mem_singleton.1 hx]; omega)) (fun i hi => by have := (tour_at ht hi).1.2; rw [List.length_append]; omega)
  rw [if_neg e2] at hok ⊢
  by_cases e3 : k = 3
  · rw [if_pos e3] at hok ⊢
    unfold leaveT
    refine tour_mk (tour_reqB ht) ?_ (fun x hx => tour_all (tour_again_self ht) x (List.mem_of_mem_eraseIdx hx))
    rw [List.length_eraseIdx, againP_len]; split <;> omega
  rw [if_neg e3] at hok ⊢
  by_cases e4 : k = 4
  · rw [if_pos e4] at hok ⊢
    simp only [Bool.and_eq_true, decide_eq_true_eq] at hok
    refine tour_again ht ?_ (fun i hi => ?_)
    · have h := tour_reqB ht
      unfold reqB at h ⊢
      simp only [Bool.and_eq_true, decide_eq_true_eq, belowB, List.all_eq_true] at h ⊢
      exact ⟨⟨h.1.1, by rw [List.length_take]; omega⟩, fun x hx => h.2 x (List.mem_of_mem_take hx)⟩
    · have := (latT_lt t.ps _ (by omega) t.ps.length).1 hok.2.2 i hi
      rw [List.length_take]; omega
  rw [if_neg e4] at hok ⊢
  by_cases e5 : k = 5
  · rw [if_pos e5] at hok ⊢
    simp only [Bool.and_eq_true, decide_eq_true_eq, inB_iff] at hok
    refine tour_again ht (reqB_snoc (tour_reqB ht) (by rw [List.length_drop]; omega) (fun x hx => ?_)) (fun i hi => by have := (tour_at ht hi).1.2; rw [List.length_append]; omega)
    have h := tour_reqB ht
    unfold reqB at h
    simp only [Bool.and_eq_true, decide_eq_true_eq, belowB, List.all_eq_true] at h
    have := inB_iff.1 (h.2 x (List.mem_of_mem_drop hx))
    omega
  rw [if_neg e5] at hok ⊢
  refine tour_mk ?_ (by unfold clearP; rw [List.length_map]; omega) (fun x hx => ?_)
  · unfold reqB belowB
    simp only [Bool.and_eq_true, inB_iff, decide_eq_true_eq]
    exact ⟨⟨⟨hl3, hl4⟩, by simp⟩, by simp⟩
  · unfold clearP at hx
    obtain ⟨y, hy, rfl⟩ := List.mem_map.1 hx
    obtain ⟨i, hi, rfl⟩ := List.getElem_of_mem hy
    obtain ⟨_, h2, g1⟩ := tour_at ht hi
    have e : t.ps.getD i dPl = t.ps[i] := by rw [List.getD_eq_getElem?_getD, List.getElem?_eq_getElem hi]; rfl
    rw [e] at h2 g1
    unfold clrP
    exact play_served (by simp) h2 g1 (by simp)
end Go.Proofs.YtodnkkmjjlfoiaaGreat

/- may a step be made (reference) -/
namespace Go.Proofs.YtodnkkmjjlfoiaaGreat
open Go.RowKit

def stV (k a b : Int) : Value := .agg #[.int .i64 k, .int .i64 a, .int .i64 b]
set_option maxRecDepth 100000 in
set_option maxHeartbeats 4000000 in
theorem l12Plain_any (v : Value) (t : To) (k a b : Int) (w : World) (h : RT No w v t) (ht : tourB t = true) :
    Calls Tryz.prog 83 #[v, stV k a b] w (Ret fun r w' => r = .bool (okPlain t k a b) ∧ Chg No w w') := by
  obtain ⟨hl1, hl2, hl3, hl4⟩ := tour_len ht
  have h0 := h
  obtain ⟨it, ps, rq⟩ := t
  obtain ⟨pv, qv, rfl, hps, hrq⟩ := h
  simp only at hps hrq hl1 hl2 hl3 hl4
  obtain ⟨qa, qc, rfl, _⟩ := id hrq
  obtain ⟨pa, cap, rfl, hcap, hmax, hlen, pf, mf, hl, hcl⟩ := id hps
  clear hl hcl ht hps hrq
  obtain ⟨n, hn⟩ : ∃ n, rq.length = n := ⟨_, rfl⟩
  have hW0 := boxes32 (w := w) (t := 31) (t' := 49) (x0 := .int .i64 it) (x1 := .slice pa ps.length cap) (x2 := .slice qa n qc) (y0 := .int .i64 k) (y1 := .int .i64 a) (y2 := .int .i64 b)
    (R := fun W => Chg No w W ∧ Box3 W w.heap.size (.int .i64 it) (.slice pa ps.length cap) (.slice qa n qc) ∧ Box3 W (w.heap.size + 1) (.int .i64 k) (.int .i64 a) (.int .i64 b)) (fun W k b0 b1 => ⟨k, b0, b1⟩)
  obtain ⟨kk, b0, b1⟩ := hW0
  have hO : okPlain ⟨it, ps, rq⟩ k a b = ((b == 0) && (
    if k = 2 then inB a 0 (it - 1) && decide (n < 60)
    else if k = 3 then hasP ⟨it, ps, rq⟩ a
    else if k = 4 then (a == 0) && (decide (0 < n) && decide (latT ps ps.length < (n : Int)))
    else if k = 5 then inB a 1 n && decide ((n : Int) + a ≤ 60)
    else (k == 7) && (a == 0))) := by rw [← hn]; rfl
  obtain ⟨ok, hok⟩ : ∃ ok, okPlain ⟨it, ps, rq⟩ k a b = ok := ⟨_, rfl⟩
  rw [hok] at hO ⊢
  have HN := Lib.hid hn
  obtain ⟨c0, c1, c2, _⟩ := id b0
  obtain ⟨d0, d1, d2, _⟩ := id b1
  have hn0 : (0 : Int) ≤ (n : Int) := Int.natCast_nonneg _
  rw [hn] at h0 hl2 ⊢
  have h0k := h0.keep kk
  clear hn hok
  unfold stV
  by_cases hb : b = 0
  · subst hb
    simp only [beq_self_eq_true, Bool.true_and] at hO
    by_cases e2 : k = 2
    · subst e2
      rw [if_pos rfl] at hO
      have hw1 : IntKind.i64.wrap (it - 1) = it - 1 := IntWalk.i64_in _ (by omega)
      have HO := Lib.hid hO
      clear hO
      go_enter Tryz.func83, Tryz.ntmps83
      go_wp2_with fail
      refine (l1In_any _ _ _ _).mono ?_
      rintro e w1 ⟨rfl, rfl⟩
      cases hi : inB a 0 (it - 1)
      · have HI := Lib.hid hi
        clear hi
        go_wp2_with fail
        go_ret
        exact ⟨_, rfl, by rw [HO.out, HI.out]; rfl, kk⟩
      · have HI := Lib.hid hi
        clear hi
        go_wp2_with fail
        go_ret
        exact ⟨_, rfl, by rw [HO.out, HI.out, Bool.true_and]; simp; omega, kk⟩
    · rw [if_neg e2] at hO
      by_cases e3 : k = 3
      · subst e3
        rw [if_pos rfl] at hO
        have HO := Lib.hid hO
        clear hO
        go_enter Tryz.func83, Tryz.ntmps83
        go_wp2_with fail
        refine (l12Has_any _ _ a _ h0k).mono ?_
        rintro e w1 ⟨_, rfl, rfl, k1⟩
        go_wp2_with fail
        go_ret
        exact ⟨_, rfl, by rw [HO.out]; rfl, kk.keep k1⟩
      · rw [if_neg e3] at hO
        by_cases e4 : k = 4
        · subst e4
          rw [if_pos rfl] at hO
          by_cases ha : a = 0
          · subst ha
            simp only [beq_self_eq_true, Bool.true_and] at hO
            by_cases hp : 0 < n
            · have hp' : (0 : Int) < (n : Int) := by omega
              rw [decide_eq_true hp, Bool.true_and] at hO
              have HO := Lib.hid hO
              clear hO hp
              go_enter Tryz.func83, Tryz.ntmps83
              go_wp2_with fail
              refine (l12Latest_any _ _ _ h0k).mono ?_
              rintro e w1 ⟨_, rfl, rfl, k1⟩
              go_wp2_with fail
              go_ret
              exact ⟨_, rfl, by rw [HO.out]; rfl, kk.keep k1⟩
            · have hp' : ¬ (0 : Int) < (n : Int) := by omega
              rw [decide_eq_false hp, Bool.false_and] at hO
              have HO := Lib.hid hO
              clear hO hp
              go_enter Tryz.func83, Tryz.ntmps83
              go_wp2_with fail
              go_ret
              exact ⟨_, rfl, by rw [HO.out]; rfl, kk⟩
          · have ha' : (a == 0) = false := by simpa using ha
            rw [ha', Bool.false_and] at hO
            have HO := Lib.hid hO
            clear hO
            go_enter Tryz.func83, Tryz.ntmps83
            go_wp2_with fail
            go_ret
            exact ⟨_, rfl, by rw [HO.out]; rfl, kk⟩
        · rw [if_neg e4] at hO
          by_cases e5 : k = 5
          · subst e5
            rw [if_pos rfl] at hO
            have HO := Lib.hid hO
            clear hO
            cases hi : inB a 1 n
            · have HI := Lib.hid hi
              clear hi
              go_enter Tryz.func83, Tryz.ntmps83
              go_wp2_with fail
              refine (l1In_any _ _ _ _).mono ?_
              rintro e w1 ⟨rfl, rfl⟩
              rw [HI.out]
              go_wp2_with fail
              go_ret
              exact ⟨_, rfl, by rw [HO.out, HI.out]; rfl, kk⟩
            · have hin := inB_iff.1 hi
              have HI := Lib.hid hi
              have hw1 : IntKind.i64.wrap ((n : Int) + a) = (n : Int) + a := IntWalk.i64_in _ (by omega)
              clear hi hin
              go_enter Tryz.func83, Tryz.ntmps83
              go_wp2_with fail
              refine (l1In_any _ _ _ _).mono ?_
              rintro e w1 ⟨rfl, rfl⟩
              rw [HI.out]
              go_wp2_with fail
              go_ret
              exact ⟨_, rfl, by rw [HO.out, HI.out, Bool.true_and]; rfl, kk⟩
          · rw [if_neg e5] at hO
            by_cases e7 : k = 7
            · subst e7
              have HO := Lib.hid hO
              clear hO
              go_enter Tryz.func83, Tryz.ntmps83
              go_wp2_with fail
              go_ret
              exact ⟨_, rfl, by rw [HO.out]; rfl, kk⟩
            · have e7' : (k == 7) = false := by simpa using e7
              rw [e7', Bool.false_and] at hO
              have HO := Lib.hid hO
              clear hO e7'
              go_enter Tryz.func83, Tryz.ntmps83
              go_wp2_with fail
              go_ret
              exact ⟨_, rfl, by rw [HO.out]; rfl, kk⟩
  · have hb' : (b == 0) = false := by simpa using hb
    rw [hb', Bool.false_and] at hO
    have HO := Lib.hid hO
    clear hO
    go_enter Tryz.func83, Tryz.ntmps83
    go_wp2_with fail
    go_ret
    exact ⟨_, rfl, by rw [HO.out]; rfl, kk⟩
end Go.Proofs.YtodnkkmjjlfoiaaGreat

/- may a step be made (reference): the whole -/
namespace Go.Proofs.YtodnkkmjjlfoiaaGreat
open Go.RowKit

set_option maxRecDepth 100000 in
set_option maxHeartbeats 4000000 in
theorem l12May1_any (v : Value) (t : To) (a b : Int) (w : World) (h : RT No w v t) (ht : tourB t = true) :
    Calls Tryz.prog 41 #[v, stV 1 a b] w (Ret fun r w' => r = .bool (okStep t 1 a b) ∧ Chg No w w') := by
  obtain ⟨k, hk⟩ : ∃ k : Int, k = 1 := ⟨_, rfl⟩
  rw [← hk]
  obtain ⟨hl1, hl2, hl3, hl4⟩ := tour_len ht
  have h0 := h
  obtain ⟨it, ps, rq⟩ := t
  obtain ⟨pv, qv, rfl, hps, hrq⟩ := h
  simp only at hps hrq hl1 hl2 hl3 hl4
  obtain ⟨qa, qc, rfl, _⟩ := id hrq
  obtain ⟨pa, cap, rfl, hcap, hmax, hlen, pf, mf, hl, hcl⟩ := id hps
  obtain ⟨n, hn⟩ : ∃ n, rq.length = n := ⟨_, rfl⟩
  have hW0 := boxes32 (w := w) (t := 31) (t' := 49) (x0 := .int .i64 it) (x1 := .slice pa ps.length cap) (x2 := .slice qa n qc) (y0 := .int .i64 k) (y1 := .int .i64 a) (y2 := .int .i64 b)
    (R := fun W => Chg No w W ∧ Box3 W w.heap.size (.int .i64 it) (.slice pa ps.length cap) (.slice qa n qc) ∧ Box3 W (w.heap.size + 1) (.int .i64 k) (.int .i64 a) (.int .i64 b)) (fun W k b0 b1 => ⟨k, b0, b1⟩)
  obtain ⟨kk, b0, b1⟩ := hW0
  have hn0 : (0 : Int) ≤ (n : Int) := Int.natCast_nonneg _
  rw [hn] at h0 hl2 ⊢
  have h0k := h0.keep kk
  have hO : okStep ⟨it, ps, rq⟩ k a b = (inB a 1 7 && (inB b 1 6 && decide (ps.length < 4))) := by rw [hk]; rfl
  subst hk
  have HO := Lib.hid hO
  obtain ⟨c0, c1, c2, _⟩ := id b0
  obtain ⟨d0, d1, d2, _⟩ := id b1
  clear hO hl hcl hps hrq ht
  unfold stV
  go_enter Tryz.func41, Tryz.ntmps41
  go_wp2_with fail
  refine (l4Sizes_any a b _).mono ?_
  rintro e w1 ⟨rfl, rfl⟩
  cases hi : (inB a 1 7 && inB b 1 6)
  · have HI := Lib.hid hi
    clear hi
    go_wp2_with fail
    go_ret
    exact ⟨_, rfl, by rw [HO.out, ← Bool.and_assoc, HI.out]; rfl, kk⟩
  · have HI := Lib.hid hi
    clear hi
    go_wp2_with fail
    go_ret
    exact ⟨_, rfl, by rw [HO.out, ← Bool.and_assoc, HI.out]; simp; omega, kk⟩
set_option maxRecDepth 100000 in
set_option maxHeartbeats 4000000 in
theorem l12May0_any (v : Value) (t : To) (k a b : Int) (w : World) (h : RT No w v t) (ht : tourB t = true) (e1 : ¬ k = 1) (e6 : ¬ k = 6) :
    Calls Tryz.prog 41 #[v, stV k a b] w (Ret fun r w' => r = .bool (okStep t k a b) ∧ Chg No w w') := by
  have HT := Lib.hid ht
  obtain ⟨hl1, hl2, hl3, hl4⟩ := tour_len ht
  have h0 := h
  obtain ⟨it, ps, rq⟩ := t
  obtain ⟨pv, qv, rfl, hps, hrq⟩ := h
  simp only at hps hrq hl1 hl2 hl3 hl4
  obtain ⟨qa, qc, rfl, _⟩ := id hrq
  obtain ⟨pa, cap, rfl, hcap, hmax, hlen, pf, mf, hl, hcl⟩ := id hps
  obtain ⟨n, hn⟩ : ∃ n, rq.length = n := ⟨_, rfl⟩
  have hW0 := boxes32 (w := w) (t := 31) (t' := 49) (x0 := .int .i64 it) (x1 := .slice pa ps.length cap) (x2 := .slice qa n qc) (y0 := .int .i64 k) (y1 := .int .i64 a) (y2 := .int .i64 b)
    (R := fun W => Chg No w W ∧ Box3 W w.heap.size (.int .i64 it) (.slice pa ps.length cap) (.slice qa n qc) ∧ Box3 W (w.heap.size + 1) (.int .i64 k) (.int .i64 a) (.int .i64 b)) (fun W k b0 b1 => ⟨k, b0, b1⟩)
  obtain ⟨kk, b0, b1⟩ := hW0
  have hn0 : (0 : Int) ≤ (n : Int) := Int.natCast_nonneg _
  rw [hn] at h0 hl2 ⊢
  have h0k := h0.keep kk
  have hO : okStep ⟨it, ps, rq⟩ k a b = okPlain ⟨it, ps, rq⟩ k a b := by unfold okStep; rw [if_neg e1, if_neg e6]
  have HO := Lib.hid hO
  obtain ⟨c0, c1, c2, _⟩ := id b0
  obtain ⟨d0, d1, d2, _⟩ := id b1
  clear hO hl hcl hps hrq ht
  unfold stV
  go_enter Tryz.func41, Tryz.ntmps41
  go_wp2_with fail
  refine (l12Plain_any _ _ k a b _ h0k HT.out).mono ?_
  rintro e w1 ⟨_, rfl, rfl, k1⟩
  go_wp2_with fail
  go_ret
  exact ⟨_, rfl, by rw [HO.out]; rfl, kk.keep k1⟩

set_option maxRecDepth 100000 in
set_option maxHeartbeats 4000000 in
theorem l12May6_any (v : Value) (t : To) (a b : Int) (w : World) (h : RT No w v t) (ht : tourB t = true) :
    Calls Tryz.prog 41 #[v, stV 6 a b] w (Ret fun r w' => r = .bool (okStep t 6 a b) ∧ Chg No w w') := by
  obtain ⟨k, hk⟩ : ∃ k : Int, k = 6 := ⟨_, rfl⟩
  rw [← hk]
  obtain ⟨hl1, hl2, hl3, hl4⟩ := tour_len ht
  have h0 := h
  obtain ⟨it, ps, rq⟩ := t
  obtain ⟨pv, qv, rfl, hps, hrq⟩ := h
  simp only at hps hrq hl1 hl2 hl3 hl4
  obtain ⟨qa, qc, rfl, _⟩ := id hrq
  obtain ⟨pa, cap, rfl, hcap, hmax, hlen, pf, mf, hl, hcl⟩ := id hps
  obtain ⟨n, hn⟩ : ∃ n, rq.length = n := ⟨_, rfl⟩
  have hW0 := boxes32 (w := w) (t := 31) (t' := 49) (x0 := .int .i64 it) (x1 := .slice pa ps.length cap) (x2 := .slice qa n qc) (y0 := .int .i64 k) (y1 := .int .i64 a) (y2 := .int .i64 b)
    (R := fun W => Chg No w W ∧ Box3 W w.heap.size (.int .i64 it) (.slice pa ps.length cap) (.slice qa n qc) ∧ Box3 W (w.heap.size + 1) (.int .i64 k) (.int .i64 a) (.int .i64 b)) (fun W k b0 b1 => ⟨k, b0, b1⟩)
  obtain ⟨kk, b0, b1⟩ := hW0
  have hn0 : (0 : Int) ≤ (n : Int) := Int.natCast_nonneg _
  rw [hn] at h0 hl2 ⊢
  have h0k := h0.keep kk
  have hO : okStep ⟨it, ps, rq⟩ k a b = (hasP ⟨it, ps, rq⟩ a && (decide ((ps.getD a.toNat dPl).ca.size < it) && inB b 1 (60 - (n : Int)))) := by rw [hk, ← hn]; rfl
  subst hk
  cases hh : hasP ⟨it, ps, rq⟩ a
  · rw [hh, Bool.false_and] at hO
    have HH := Lib.hid hh
    have HO := Lib.hid hO
    obtain ⟨C, hC1, hC2⟩ : ∃ C : World → Prop, (∀ W, C W → Box3 W w.heap.size (.int .i64 it) (.slice pa ps.length cap) (.slice qa n qc) ∧ Box3 W (w.heap.size + 1) (.int .i64 6) (.int .i64 a) (.int .i64 b) ∧ Chg No w W) ∧ (∀ W, Box3 W w.heap.size (.int .i64 it) (.slice pa ps.length cap) (.slice qa n qc) → Box3 W (w.heap.size + 1) (.int .i64 6) (.int .i64 a) (.int .i64 b) → Chg No w W → C W) := ⟨_, fun _ h => h, fun _ h h' h2 => ⟨h, h', h2⟩⟩
    have HK : Hid (∀ W W', C W → Chg No W W' → C W') := Lib.hid (fun W W' hW hk => hC2 W' ((hC1 W hW).1.keep hk) ((hC1 W hW).2.1.keep hk) ((hC1 W hW).2.2.keep hk))
    have HX := Lib.hid hC1
    have hC0 := hC2 _ (b0.keep (Chg.refl No _).drew) (b1.keep (Chg.refl No _).drew) kk.drew
    have HCELL : Hid (∀ W, C W → W.cell? ⟨w.heap.size, 0, none⟩ = some (.int .i64 it) ∧ W.cell? ⟨w.heap.size, 1, none⟩ = some (.slice pa ps.length cap) ∧ W.cell? ⟨w.heap.size, 2, none⟩ = some (.slice qa n qc) ∧ W.cell? ⟨w.heap.size + 1, 0, none⟩ = some (.int .i64 6) ∧ W.cell? ⟨w.heap.size + 1, 1, none⟩ = some (.int .i64 a) ∧ W.cell? ⟨w.heap.size + 1, 2, none⟩ = some (.int .i64 b) ∧ True) := Lib.hid (fun W hW => by
      obtain ⟨g1, g2, _⟩ := hC1 W hW
      exact ⟨g1.c0, g1.c1, g1.c2, g2.c0, g2.c1, g2.c2, trivial⟩)
    obtain ⟨c0, c1, c2, _⟩ := id b0
    obtain ⟨d0, d1, d2, _⟩ := id b1
    clear hO hl hcl hps hrq ht hh hC1 hC2 b0 b1
    unfold stV
    go_enter Tryz.func41, Tryz.ntmps41
    go_wp2_with fail
    refine wp_region_X C (by kernel_rfl) (by kernel_rfl) hC0 ?_
    clear hC0
    refine wpX_val (.agg #[.int .i64 it, .slice pa ps.length cap, .slice qa n qc]) rfl (by intro W hW; obtain ⟨c0, c1, c2, d0, d1, d2, p2⟩ := HCELL.out W hW; go_simp) ?_
    simp only [Act.put, List.setIfInBounds_toArray, List.set_cons_zero, List.set_cons_succ]
    refine wpX_val (.pointer (some ⟨w.heap.size + 1, 1, none⟩)) rfl (by intro W hW; obtain ⟨c0, c1, c2, d0, d1, d2, p2⟩ := HCELL.out W hW; go_simp) ?_
    simp only [Act.put, List.setIfInBounds_toArray, List.set_cons_zero, List.set_cons_succ]
    refine wpX_val (.int .i64 a) rfl (by intro W hW; obtain ⟨c0, c1, c2, d0, d1, d2, p2⟩ := HCELL.out W hW; go_simp) ?_
    simp only [Act.put, List.setIfInBounds_toArray, List.set_cons_zero, List.set_cons_succ]
    refine wpX_call (.bool false) (f := 68) (args := #[.agg #[.int .i64 it, .slice pa ps.length cap, .slice qa n qc], .int .i64 a]) rfl (by intro W hW; obtain ⟨c0, c1, c2, d0, d1, d2, p2⟩ := HCELL.out W hW; go_simp) (fun W hW => (l12Has_any _ ⟨it, ps, rq⟩ a W (h0.keep (HX.out W hW).2.2)).mono (by rintro e w' ⟨_, rfl, rfl, hk⟩; exact ⟨by rw [HH.out], HK.out _ _ hW hk⟩)) ?_
    simp only [Act.put, List.setIfInBounds_toArray, List.set_cons_zero, List.set_cons_succ]
    refine wpX_val (.bool false) rfl (by intro W hW; obtain ⟨c0, c1, c2, d0, d1, d2, p2⟩ := HCELL.out W hW; go_simp) ?_
    simp only [Act.put, List.setIfInBounds_toArray, List.set_cons_zero, List.set_cons_succ]
    repeat (first | (refine wpX_skip rfl ?_; simp only [Act.put, List.setIfInBounds_toArray, List.set_cons_zero, List.set_cons_succ]) | (refine wpX_val (.bool false) rfl (by intro W hW; go_simp) ?_; simp only [Act.put, List.setIfInBounds_toArray, List.set_cons_zero, List.set_cons_succ]))
    refine wpX_nil (fun W hW => ?_)
    have kW := (HX.out W hW).2.2
    go_wp2_with fail
    go_ret
    exact ⟨_, rfl, by rw [HO.out]; rfl, kW⟩
  · rw [hh, Bool.true_and] at hO
    have hik : 0 ≤ a ∧ a ≤ (ps.length : Int) - 1 := inB_iff.1 hh
    obtain ⟨x, rfl⟩ : ∃ x : Nat, a = (x : Int) := ⟨a.toNat, by omega⟩
    have hx : x < ps.length := by omega
    obtain ⟨bb, off, rfl, _, hbb, hcell⟩ := hcl (by intro e; simp [e] at hx)
    have d2p := (hcell x hx).c2
    rw [show (x : Int).toNat = x by omega] at hO
    obtain ⟨sz, hsz⟩ : ∃ sz, (ps.getD x dPl).ca.size = sz := ⟨_, rfl⟩
    rw [hsz] at hO d2p
    have hx0 : (0 : Int) ≤ (x : Int) := Int.natCast_nonneg _
    have hx1 : (x : Int) < (ps.length : Int) := by omega
    have hw1 : IntKind.i64.wrap (60 - (n : Int)) = 60 - (n : Int) := IntWalk.i64_in _ (by omega)
    obtain ⟨a, ha⟩ : ∃ a : Int, a = (x : Int) := ⟨_, rfl⟩
    have HA := Lib.hid ha
    have HH := Lib.hid hh
    have HO := Lib.hid hO
    have HBB := Lib.hid hbb
    have HP2 := Lib.hid d2p
    obtain ⟨C, hC1, hC2⟩ : ∃ C : World → Prop, (∀ W, C W → Box3 W w.heap.size (.int .i64 it) (.slice (some ⟨bb, off, none⟩) ps.length cap) (.slice qa n qc) ∧ Box3 W (w.heap.size + 1) (.int .i64 6) (.int .i64 (x : Int)) (.int .i64 b) ∧ Chg No w W) ∧ (∀ W, Box3 W w.heap.size (.int .i64 it) (.slice (some ⟨bb, off, none⟩) ps.length cap) (.slice qa n qc) → Box3 W (w.heap.size + 1) (.int .i64 6) (.int .i64 (x : Int)) (.int .i64 b) → Chg No w W → C W) := ⟨_, fun _ h => h, fun _ h h' h2 => ⟨h, h', h2⟩⟩
    have HK : Hid (∀ W W', C W → Chg No W W' → C W') := Lib.hid (fun W W' hW hk => hC2 W' ((hC1 W hW).1.keep hk) ((hC1 W hW).2.1.keep hk) ((hC1 W hW).2.2.keep hk))
    have HX := Lib.hid hC1
    have hC0 := hC2 _ (b0.keep (Chg.refl No _).drew) (b1.keep (Chg.refl No _).drew) kk.drew
    have HCELL : Hid (∀ W, C W → W.cell? ⟨w.heap.size, 0, none⟩ = some (.int .i64 it) ∧ W.cell? ⟨w.heap.size, 1, none⟩ = some (.slice (some ⟨bb, off, none⟩) ps.length cap) ∧ W.cell? ⟨w.heap.size, 2, none⟩ = some (.slice qa n qc) ∧ W.cell? ⟨w.heap.size + 1, 0, none⟩ = some (.int .i64 6) ∧ W.cell? ⟨w.heap.size + 1, 1, none⟩ = some (.int .i64 (x : Int)) ∧ W.cell? ⟨w.heap.size + 1, 2, none⟩ = some (.int .i64 b) ∧ W.cell? ⟨bb, off + x * 7 + 2, none⟩ = some (.int .i64 sz)) := Lib.hid (fun W hW => by
      obtain ⟨g1, g2, g3⟩ := hC1 W hW
      exact ⟨g1.c0, g1.c1, g1.c2, g2.c0, g2.c1, g2.c2, (g3.cellD bb _ HBB.out (fun e => e)).trans HP2.out⟩)
    obtain ⟨c0, c1, c2, _⟩ := id b0
    obtain ⟨d0, d1, d2, _⟩ := id b1
    clear hO hl hcl hps hrq ht hh hC1 hC2 b0 b1 hcell d2p hik ha hsz hbb
    unfold stV
    go_enter Tryz.func41, Tryz.ntmps41
    go_wp2_with fail
    refine wp_region_X C (by kernel_rfl) (by kernel_rfl) hC0 ?_
    clear hC0
    refine wpX_val (.agg #[.int .i64 it, .slice (some ⟨bb, off, none⟩) ps.length cap, .slice qa n qc]) rfl (by intro W hW; obtain ⟨c0, c1, c2, d0, d1, d2, p2⟩ := HCELL.out W hW; go_simp) ?_
    simp only [Act.put, List.setIfInBounds_toArray, List.set_cons_zero, List.set_cons_succ]
    refine wpX_val (.pointer (some ⟨w.heap.size + 1, 1, none⟩)) rfl (by intro W hW; obtain ⟨c0, c1, c2, d0, d1, d2, p2⟩ := HCELL.out W hW; go_simp) ?_
    simp only [Act.put, List.setIfInBounds_toArray, List.set_cons_zero, List.set_cons_succ]
    refine wpX_val (.int .i64 (x : Int)) rfl (by intro W hW; obtain ⟨c0, c1, c2, d0, d1, d2, p2⟩ := HCELL.out W hW; go_simp) ?_
    simp only [Act.put, List.setIfInBounds_toArray, List.set_cons_zero, List.set_cons_succ]
    refine wpX_call (.bool true) (f := 68) (args := #[.agg #[.int .i64 it, .slice (some ⟨bb, off, none⟩) ps.length cap, .slice qa n qc], .int .i64 (x : Int)]) rfl (by intro W hW; obtain ⟨c0, c1, c2, d0, d1, d2, p2⟩ := HCELL.out W hW; go_simp) (fun W hW => (l12Has_any _ ⟨it, ps, rq⟩ (x : Int) W (h0.keep (HX.out W hW).2.2)).mono (by rintro e w' ⟨_, rfl, rfl, hk⟩; exact ⟨by rw [HH.out], HK.out _ _ hW hk⟩)) ?_
    simp only [Act.put, List.setIfInBounds_toArray, List.set_cons_zero, List.set_cons_succ]
    refine wpX_val (.bool true) rfl (by intro W hW; obtain ⟨c0, c1, c2, d0, d1, d2, p2⟩ := HCELL.out W hW; go_simp) ?_
    simp only [Act.put, List.setIfInBounds_toArray, List.set_cons_zero, List.set_cons_succ]
    refine wpX_val (.pointer (some ⟨w.heap.size, 1, none⟩)) rfl (by intro W hW; obtain ⟨c0, c1, c2, d0, d1, d2, p2⟩ := HCELL.out W hW; go_simp) ?_
    simp only [Act.put, List.setIfInBounds_toArray, List.set_cons_zero, List.set_cons_succ]
    refine wpX_val (.slice (some ⟨bb, off, none⟩) ps.length cap) rfl (by intro W hW; obtain ⟨c0, c1, c2, d0, d1, d2, p2⟩ := HCELL.out W hW; go_simp) ?_
    simp only [Act.put, List.setIfInBounds_toArray, List.set_cons_zero, List.set_cons_succ]
    refine wpX_val (.pointer (some ⟨w.heap.size + 1, 1, none⟩)) rfl (by intro W hW; obtain ⟨c0, c1, c2, d0, d1, d2, p2⟩ := HCELL.out W hW; go_simp) ?_
    simp only [Act.put, List.setIfInBounds_toArray, List.set_cons_zero, List.set_cons_succ]
    refine wpX_val (.int .i64 (x : Int)) rfl (by intro W hW; obtain ⟨c0, c1, c2, d0, d1, d2, p2⟩ := HCELL.out W hW; go_simp) ?_
    simp only [Act.put, List.setIfInBounds_toArray, List.set_cons_zero, List.set_cons_succ]
    refine wpX_val (.pointer (some ⟨bb, off + x * 7, none⟩)) rfl (by intro W hW; obtain ⟨c0, c1, c2, d0, d1, d2, p2⟩ := HCELL.out W hW; go_simp) ?_
    simp only [Act.put, List.setIfInBounds_toArray, List.set_cons_zero, List.set_cons_succ]
    refine wpX_val (.pointer (some ⟨bb, off + x * 7 + 1, none⟩)) rfl (by intro W hW; obtain ⟨c0, c1, c2, d0, d1, d2, p2⟩ := HCELL.out W hW; go_simp) ?_
    simp only [Act.put, List.setIfInBounds_toArray, List.set_cons_zero, List.set_cons_succ]
    refine wpX_val (.pointer (some ⟨bb, off + x * 7 + 2, none⟩)) rfl (by intro W hW; obtain ⟨c0, c1, c2, d0, d1, d2, p2⟩ := HCELL.out W hW; go_simp) ?_
    simp only [Act.put, List.setIfInBounds_toArray, List.set_cons_zero, List.set_cons_succ]
    refine wpX_val (.int .i64 sz) rfl (by intro W hW; obtain ⟨c0, c1, c2, d0, d1, d2, p2⟩ := HCELL.out W hW; go_simp) ?_
    simp only [Act.put, List.setIfInBounds_toArray, List.set_cons_zero, List.set_cons_succ]
    refine wpX_val (.pointer (some ⟨w.heap.size, 0, none⟩)) rfl (by intro W hW; obtain ⟨c0, c1, c2, d0, d1, d2, p2⟩ := HCELL.out W hW; go_simp) ?_
    simp only [Act.put, List.setIfInBounds_toArray, List.set_cons_zero, List.set_cons_succ]
    refine wpX_val (.int .i64 it) rfl (by intro W hW; obtain ⟨c0, c1, c2, d0, d1, d2, p2⟩ := HCELL.out W hW; go_simp) ?_
    simp only [Act.put, List.setIfInBounds_toArray, List.set_cons_zero, List.set_cons_succ]
    refine wpX_val (.bool (decide (sz < it))) rfl (by intro W hW; obtain ⟨c0, c1, c2, d0, d1, d2, p2⟩ := HCELL.out W hW; go_simp) ?_
    simp only [Act.put, List.setIfInBounds_toArray, List.set_cons_zero, List.set_cons_succ]
    cases hlt : decide (sz < it)
    · have HLT := Lib.hid hlt
      clear hlt
      repeat (first | (refine wpX_skip rfl ?_; simp only [Act.put, List.setIfInBounds_toArray, List.set_cons_zero, List.set_cons_succ]) | (refine wpX_val (.bool false) rfl (by intro W hW; go_simp) ?_; simp only [Act.put, List.setIfInBounds_toArray, List.set_cons_zero, List.set_cons_succ]))
      refine wpX_nil (fun W hW => ?_)
      have kW := (HX.out W hW).2.2
      go_wp2_with fail
      go_ret
      exact ⟨_, rfl, by rw [HO.out, HLT.out]; rfl, kW⟩
    · have HLT := Lib.hid hlt
      clear hlt
      refine wpX_val (.bool true) rfl (by intro W hW; obtain ⟨c0, c1, c2, d0, d1, d2, p2⟩ := HCELL.out W hW; go_simp) ?_
      simp only [Act.put, List.setIfInBounds_toArray, List.set_cons_zero, List.set_cons_succ]
      refine wpX_val (.bool true) rfl (by intro W hW; obtain ⟨c0, c1, c2, d0, d1, d2, p2⟩ := HCELL.out W hW; go_simp) ?_
      simp only [Act.put, List.setIfInBounds_toArray, List.set_cons_zero, List.set_cons_succ]
      refine wpX_val (.pointer (some ⟨w.heap.size + 1, 2, none⟩)) rfl (by intro W hW; obtain ⟨c0, c1, c2, d0, d1, d2, p2⟩ := HCELL.out W hW; go_simp) ?_
      simp only [Act.put, List.setIfInBounds_toArray, List.set_cons_zero, List.set_cons_succ]
      refine wpX_val (.int .i64 b) rfl (by intro W hW; obtain ⟨c0, c1, c2, d0, d1, d2, p2⟩ := HCELL.out W hW; go_simp) ?_
      simp only [Act.put, List.setIfInBounds_toArray, List.set_cons_zero, List.set_cons_succ]
      refine wpX_val (.pointer (some ⟨w.heap.size, 2, none⟩)) rfl (by intro W hW; obtain ⟨c0, c1, c2, d0, d1, d2, p2⟩ := HCELL.out W hW; go_simp) ?_
      simp only [Act.put, List.setIfInBounds_toArray, List.set_cons_zero, List.set_cons_succ]
      refine wpX_val (.slice qa n qc) rfl (by intro W hW; obtain ⟨c0, c1, c2, d0, d1, d2, p2⟩ := HCELL.out W hW; go_simp) ?_
      simp only [Act.put, List.setIfInBounds_toArray, List.set_cons_zero, List.set_cons_succ]
      refine wpX_val (.int .i64 (n : Int)) rfl (by intro W hW; obtain ⟨c0, c1, c2, d0, d1, d2, p2⟩ := HCELL.out W hW; go_simp) ?_
      simp only [Act.put, List.setIfInBounds_toArray, List.set_cons_zero, List.set_cons_succ]
      refine wpX_val (.int .i64 (60 - (n : Int))) rfl (by intro W hW; obtain ⟨c0, c1, c2, d0, d1, d2, p2⟩ := HCELL.out W hW; go_simp) ?_
      simp only [Act.put, List.setIfInBounds_toArray, List.set_cons_zero, List.set_cons_succ]
      refine wpX_call (.bool (inB b 1 (60 - (n : Int)))) (f := 82) (args := #[.int .i64 b, .int .i64 1, .int .i64 (60 - (n : Int))]) rfl (by intro W hW; obtain ⟨c0, c1, c2, d0, d1, d2, p2⟩ := HCELL.out W hW; go_simp) (fun W hW => (l1In_any _ _ _ W).mono (by rintro e w' ⟨rfl, rfl⟩; exact ⟨rfl, hW⟩)) ?_
      simp only [Act.put, List.setIfInBounds_toArray, List.set_cons_zero, List.set_cons_succ]
      refine wpX_val (.bool (inB b 1 (60 - (n : Int)))) rfl (by intro W hW; obtain ⟨c0, c1, c2, d0, d1, d2, p2⟩ := HCELL.out W hW; go_simp) ?_
      simp only [Act.put, List.setIfInBounds_toArray, List.set_cons_zero, List.set_cons_succ]
      refine wpX_val (.bool (inB b 1 (60 - (n : Int)))) rfl (by intro W hW; obtain ⟨c0, c1, c2, d0, d1, d2, p2⟩ := HCELL.out W hW; go_simp) ?_
      simp only [Act.put, List.setIfInBounds_toArray, List.set_cons_zero, List.set_cons_succ]
      refine wpX_nil (fun W hW => ?_)
      have kW := (HX.out W hW).2.2
      go_wp2_with fail
      go_ret
      exact ⟨_, rfl, by rw [HO.out, HLT.out, Bool.true_and]; rfl, kW⟩
theorem l12May_any (v : Value) (t : To) (k a b : Int) (w : World) (h : RT No w v t) (ht : tourB t = true) :
    Calls Tryz.prog 41 #[v, stV k a b] w (Ret fun r w' => r = .bool (okStep t k a b) ∧ Chg No w w') := by
  by_cases e1 : k = 1
  · subst e1; exact l12May1_any v t a b w h ht
  by_cases e6 : k = 6
  · subst e6; exact l12May6_any v t a b w h ht
  exact l12May0_any v t k a b w h ht e1 e6
end Go.Proofs.YtodnkkmjjlfoiaaGreat

/- the cruel asker's requests (reference) -/
namespace Go.Proofs.YtodnkkmjjlfoiaaGreat
open Go.RowKit

set_option maxRecDepth 100000 in
set_option maxHeartbeats 4000000 in
theorem l12Cruel_any (v : Value) (t : To) (i n : Nat) (w : World) (h : RT No w v t) (ht : tourB t = true) (hi : i < t.ps.length) (hn : t.reqs.length + n ≤ 60) :
    Calls Tryz.prog 86 #[v, .int .i64 (i : Int), .int .i64 (n : Int)] w (Ret fun r w' => OI w.heap.size w' r (t.reqs ++ cruelI (t.ps.getD i dPl).ca n) ∧ Chg No w w') := by
  have hok := tour_ok ht hi
  obtain ⟨it, ps, rq⟩ := t
  obtain ⟨pv, qv, rfl, hps, hrq⟩ := h
  simp only at hps hrq hi hn hok ⊢
  obtain ⟨qa, qn, qc, rfl⟩ := hrq.shape
  obtain ⟨pa, cap, rfl, hcap, hmax, hlen, pf, mf, hl, hcl⟩ := id hps
  obtain ⟨bb, off, rfl, _, hbb, hcell⟩ := hcl (by intro e; simp [e] at hi)
  have h7 := hcell i hi
  obtain ⟨hpj, hmj⟩ := hl i hi
  obtain ⟨y, hy⟩ : ∃ y, ps.getD i dPl = y := ⟨_, rfl⟩
  rw [hy] at h7 hpj hmj hok ⊢
  obtain ⟨frm, c, fa⟩ := y
  simp only at hpj hmj hok ⊢
  generalize pf i = pj at hpj h7
  generalize mf i = mj at hmj h7
  obtain ⟨ya, yn, yc, rfl⟩ := hpj.shape
  obtain ⟨ua, un, uc, rfl⟩ := hmj.shape
  have hi0 : (0 : Int) ≤ (i : Int) := Int.natCast_nonneg _
  have hi1 : (i : Int) < (ps.length : Int) := by omega
  have hn0 : (0 : Int) ≤ (n : Int) := Int.natCast_nonneg _
  obtain ⟨g0, g1, g2, g3, g4, g5, g6⟩ := id h7
  simp only at g0 g1 g2 g3 g4 g5 g6
  have hW0 : ∀ W, W = (w.alloc (.cells #[.int .i64 it, .slice (some ⟨bb, off, none⟩) ps.length cap, .slice qa qn qc] 31)).alloc (.cells #[.int .i64 c.pol, .int .i64 c.size, .slice ya yn yc, .slice ua un uc, .int .i64 c.hand] 67) →
      Chg No w W ∧ Box W (w.heap.size + 1) (.int .i64 c.pol) (.int .i64 c.size) (.slice ya yn yc) (.slice ua un uc) (.int .i64 c.hand) := fun W e => by
    subst e
    exact ⟨((Chg.refl No w).alloc _).alloc _, (Box.new (w.alloc (.cells #[.int .i64 it, .slice (some ⟨bb, off, none⟩) ps.length cap, .slice qa qn qc] 31)) _ _ _ _ _ 67).at (by simp)⟩
  have HW0 := Lib.hid hW0
  clear hW0 hcell hcl hl h7 hy ht
  go_enter Tryz.func86, Tryz.ntmps86
  go_wp2_with fail
  clear g0 g1 g2 g3 g4 g5 g6
  generalize hWW : (w.alloc _).alloc _ = W1
  obtain ⟨kk, bx⟩ := HW0.out W1 hWW.symm
  clear hWW HW0
  have hbx := bx.lt
  refine (l1Own_any No _ rq W1 (hrq.keep kk)).mono ?_
  rintro e w2 ⟨v2, rfl, o2, k2⟩
  have hs2 := k2.size
  have hk2 := kk.keep k2
  have bx2 := bx.keep k2
  have hs1 := kk.size
  have hB2 : ∀ q, (q = w.heap.size + 1 ∨ own v2 q) → No q ∨ w.heap.size ≤ q := fun q hq => .inr (by
    rcases hq with e | e
    · omega
    · have := (o2.lt q e).1; omega)
  have hp2 := hpj.to (B := fun q => q = w.heap.size + 1 ∨ own v2 q) hk2 (fun _ e => e.elim) hB2
  have hm2 := hmj.to (B := fun q => q = w.heap.size + 1 ∨ own v2 q) hk2 (fun _ e => e.elim) hB2
  have o2' := o2.weak (base' := w.heap.size + 2) (by omega)
  have HOK := Lib.hid hok
  clear bx k2 o2 kk hB2 hpj hmj hok
  obtain ⟨B7, hB7⟩ : ∃ B7, w.heap.size + 1 = B7 := ⟨_, rfl⟩
  rw [hB7] at bx2 hp2 hm2 hbx ⊢
  go_wp2_with fail
  go_loopw [8, 9] (fun o z wr => ∃ (j : Nat) (pv mv : Value), j ≤ n ∧ z = .int .i64 (j : Int) ∧ OI (w.heap.size + 2) wr o (rq ++ cruelI c j) ∧
      Box wr B7 (.int .i64 (runC c (cruelI c j)).pol) (.int .i64 (runC c (cruelI c j)).size) pv mv (.int .i64 (runC c (cruelI c j)).hand) ∧
      RI (fun q => q = B7 ∨ own o q) wr pv (runC c (cruelI c j)).pages ∧ RI (fun q => q = B7 ∨ own o q) wr mv (runC c (cruelI c j)).marks ∧ Chg No w wr) (fun _ z _ => n - (intOf z).toNat)
  case atStart => exact ⟨0, _, _, Nat.zero_le _, rfl, by simp only [cruelI, List.append_nil]; exact o2', bx2, hp2, hm2, hk2⟩
  case round =>
    clear bx2 hp2 hm2 o2' hk2
    obtain ⟨j, pv, mv, hj, rfl, ho, hbox, hp, hm, hch⟩ := hrel
    have hj0 : (0 : Int) ≤ (j : Int) := Int.natCast_nonneg _
    obtain ⟨ck, hck⟩ : ∃ ck, runC c (cruelI c j) = ck := ⟨_, rfl⟩
    have hokk : Ok ck := hck ▸ ok_run HOK.out _
    rw [hck] at hbox hp hm
    obtain ⟨xa, xn, xc, rfl⟩ := hp.shape
    obtain ⟨za, zn, zc, rfl⟩ := hm.shape
    obtain ⟨oa, on, oc, rfl⟩ := ho.shape
    obtain ⟨L, hL⟩ : ∃ L, rq ++ cruelI c j = L := ⟨_, rfl⟩
    have hLL : L.length = rq.length + j := by rw [← hL, List.length_append, cruelI_len]
    rw [hL] at ho
    obtain ⟨c0, c1, c2, c3, c4, hfr⟩ := id hbox
    by_cases hlt : j < n
    · have hj1 : (j : Int) < (n : Int) := by omega
      have hw1 : IntKind.i64.wrap ((j : Int) + 1) = (j : Int) + 1 := IntWalk.i64_in _ (by omega)
      obtain ⟨m, hmm⟩ : ∃ m, missOf ck.pages = m := ⟨_, rfl⟩
      have hmiss : IsMiss ck.pages m := hmm ▸ missOf_spec _
      have hS1 : cruelI c (j + 1) = cruelI c j ++ [(m : Int)] := by rw [← hmm, ← hck]; rfl
      have hS2 : runC c (cruelI c (j + 1)) = stepC ck (m : Int) := by rw [hS1, runC_one, hck]
      have hS3 : rq ++ cruelI c (j + 1) = L ++ [(m : Int)] := by rw [hS1, ← List.append_assoc, hL]
      have HS2 := Lib.hid hS2
      have HS3 := Lib.hid hS3
      have HLL := Lib.hid hLL
      clear hS1 hS2 hS3 hmm hck hL hLL
      go_wp2_with fail
      refine (l7Missing_any _ _ m wr (hp.weak (fun _ e _ => e.elim)) hmiss).mono ?_
      rintro e w3 ⟨rfl, rfl⟩
      go_wp2_with fail
      have hBd : Bd (fun q => q = B7 ∨ own (.slice oa on oc) q) wr := fun q hq => by
        rcases hq with e | e
        · subst e; exact hbox.lt
        · exact (ho.lt q e).2
      refine (l4Step_any (fun q => q = B7 ∨ own (.slice oa on oc) q) _ ck (m : Int) wr ⟨_, _, rfl, hp, hm⟩ hBd hokk).mono ?_
      rintro e w4 ⟨v4, rfl, ⟨pv3, mv3, rfl, hp3, hm3⟩, hk3⟩
      clear c0 c1 c2 c3 c4 hfr
      obtain ⟨pa3, pn3, pc3, rfl⟩ := hp3.shape
      obtain ⟨ma3, mn3, mc3, rfl⟩ := hm3.shape
      have hbox3 := hbox.keep hk3
      obtain ⟨c0, c1, c2, c3, c4, hfr⟩ := id hbox3
      have hfr0 := hfr 0
      have hfr1 := hfr 1
      have hfr2 := hfr 2
      have hfr3 := hfr 3
      have hfr4 := hfr 4
      have hbox5 := hbox3.put5 (.int .i64 (stepC ck m).pol) (.int .i64 (stepC ck m).size) (.slice pa3 pn3 pc3) (.slice ma3 mn3 mc3) (.int .i64 (stepC ck m).hand)
      have hcb := (Chg.refl (fun q => q = B7) w4).put5 (b := B7) (fun _ => rfl) (.int .i64 (stepC ck m).pol) (.int .i64 (stepC ck m).size) (.slice pa3 pn3 pc3) (.slice ma3 mn3 mc3) (.int .i64 (stepC ck m).hand)
      have hp5 := hp3.step hcb (fun q hq => .inl hq)
      have hm5 := hm3.step hcb (fun q hq => .inl hq)
      have ho5 := (ho.keep hk3).step hcb (fun q hq e => by have := (ho.lt q hq).1; omega)
      have hch5 := (hch.keep hk3).step hcb (fun q hq hl => by omega)
      have HCB := Lib.hid hcb
      have hl17 : L.length < 17592186044416 := by rw [HLL.out]; omega
      obtain ⟨w5, hw5⟩ : ∃ w5, (((((w4.setCell ⟨B7, 0, none⟩ (.int .i64 (stepC ck m).pol)).setCell ⟨B7, 1, none⟩ (.int .i64 (stepC ck m).size)).setCell ⟨B7, 2, none⟩ (.slice pa3 pn3 pc3)).setCell ⟨B7, 3, none⟩ (.slice ma3 mn3 mc3)).setCell ⟨B7, 4, none⟩ (.int .i64 (stepC ck m).hand)) = w5 := ⟨_, rfl⟩
      have hz5 : w4.heap.size = w5.heap.size := by rw [← hw5]; simp
      rw [hw5] at hbox5 hp5 hm5 ho5 hch5
      have hb7 := hbox5.lt
      have hs2 : w.heap.size + 2 ≤ w5.heap.size := by omega
      have HW5 := Lib.hid hw5
      have HZ5 := Lib.hid hz5
      have HS2' := Lib.hid hs2
      have HH5 := Lib.hid (And.intro hbox5 (And.intro hp5 (And.intro hm5 hch5)))
      clear hbox hp hm hch ho hp3 hm3 hbox3 hk3 hcb hbox5 hp5 hm5 hch5 hBd hb7 hw5 hz5 hs2
      go_wp2_with (at_builtin; rw [HW5.out, HZ5.out]; refine wapp1 rfl (.tmp 31) (.tmp 33) rfl ho5 rfl rfl hl17 HS2'.out ?_)
      intro v7 w7 h7 k7 f7
      obtain ⟨hbox5, hp5, hm5, hch5⟩ := HH5.out
      have hA : ∀ q, own (.slice oa on oc) q → w.heap.size + 2 ≤ q := fun q hq => (ho5.lt q hq).1
      have hto : ∀ q, (q = B7 ∨ own v7 q) → (q = B7 ∨ own (.slice oa on oc) q) ∨ w5.heap.size ≤ q := fun q hq => by
        rcases hq with e | e
        · exact .inl (.inl e)
        · rcases f7 q e with e | e
          · exact .inl (.inr e)
          · exact .inr e
      have hp7 := hp5.to (B := fun q => q = B7 ∨ own v7 q) k7 (fun q hq => .inr hq) hto
      have hm7 := hm5.to (B := fun q => q = B7 ∨ own v7 q) k7 (fun q hq => .inr hq) hto
      have hbox7 := hbox5.step k7 (fun e => by have := hA _ e; omega)
      have hch7 := hch5.step k7 (fun q hq hl => by have := hA q hq; omega)
      have HEND := Lib.hid (And.intro h7 (And.intro hbox7 (And.intro hp7 (And.intro hm7 hch7))))
      obtain ⟨na, nn, nc, rfl⟩ := h7.shape
      clear h7 k7 f7 hbox5 hp5 hm5 hch5 hto hA hp7 hm7 hbox7 hch7 ho5 c0 c1 c2 c3 c4 hfr hfr0 hfr1 hfr2 hfr3 hfr4
      go_wp2_with fail
      go_round
      case measure => simp [intOf]; omega
      case rel =>
        obtain ⟨e1, e2, e3, e4, e5⟩ := HEND.out
        refine ⟨j + 1, .slice pa3 pn3 pc3, .slice ma3 mn3 mc3, by omega, by go_num, by rw [HS3.out]; exact e1, by rw [HS2.out]; exact e2, by rw [HS2.out]; exact e3, by rw [HS2.out]; exact e4, e5⟩
    · have hje : j = n := by omega
      subst hje
      have HE := Lib.hid (And.intro ho hch)
      have HL := Lib.hid hL
      clear hp hm hbox c0 c1 c2 c3 c4 hfr ho hch hck hL hLL
      go_wp2_with fail
      go_ret
      exact ⟨_, rfl, by rw [HL.out]; exact HE.out.1.weak (by omega), HE.out.2⟩
end Go.Proofs.YtodnkkmjjlfoiaaGreat

/- slices.Delete at a row of Players: one is taken out -/
namespace Go.Proofs.YtodnkkmjjlfoiaaGreat
open Go.RowKit

theorem OS.setCells {E : TypeId} {sz base g m cap n : Nat} {cs : List Value} : ∀ (ds : List Value) (o : Nat) (w : World), OS E sz base w (.slice (some ⟨g, 0, none⟩) m cap) n cs → n * sz ≤ o → OS E sz base (w.setCells g o ds) (.slice (some ⟨g, 0, none⟩) m cap) n cs ∧ Chg (fun k => k = g) w (w.setCells g o ds)
  | [], _, w, h, _ => ⟨h, Chg.refl _ w⟩
  | d :: ds, o, w, h, ho => by
    obtain ⟨h1, h2⟩ := h.store o d
    rw [List.set_eq_of_length_le (by rw [h.cl]; exact ho)] at h1
    obtain ⟨h3, h4⟩ := OS.setCells ds (o + 1) _ h1 (by omega)
    exact ⟨h3, h2.trans h4⟩
theorem run_szP (w : World) : (sizeOf (Tryz.prog.elem 29)).run Tryz.prog w = .ok 7 w := by kernel_rfl
theorem und_playersE : Tryz.prog.underlying 29 = some (.slice (Tryz.prog.elem 29)) := by kernel_rfl
/-- where the k-th lay before number i was taken out -/
def sg (i k : Nat) : Nat := if k < i then k else k + 1
theorem getD_erase (ls : List Pl) (i k : Nat) : (ls.eraseIdx i).getD k dPl = ls.getD (sg i k) dPl := by
  simp only [List.getD_eq_getElem?_getD, List.getElem?_eraseIdx, sg]
  split <;> rfl
theorem rowC_erase (ls : List Pl) (pf mf : Nat → Value) (i d : Nat) : (rowC ls pf mf (i + d + 1)).take (i * 7) ++ (rowC ls pf mf (i + d + 1)).drop ((i + 1) * 7) = rowC (ls.eraseIdx i) (fun k => pf (sg i k)) (fun k => mf (sg i k)) (i + d) := by
  induction d with
  | zero =>
    rw [List.drop_eq_nil_of_le (by rw [rowC_len]; omega), List.append_nil]
    simp only [Nat.add_zero]
    rw [rowC, List.take_append_of_le_length (by rw [rowC_len]; omega), List.take_of_length_le (by rw [rowC_len]; omega)]
    exact rowC_congr _ _ _ _ _ _ i (fun k hk => by rw [getD_erase]; simp [sg, hk])
  | succ d ih =>
    have e : i + (d + 1) + 1 = (i + d + 1) + 1 := by omega
    rw [e, rowC, List.take_append_of_le_length (by rw [rowC_len]; omega), List.drop_append_of_le_length (by rw [rowC_len]; omega), ← List.append_assoc, ih]
    have e2 : i + (d + 1) = (i + d) + 1 := by omega
    rw [e2, rowC]
    have e3 : sg i (i + d) = i + d + 1 := by unfold sg; rw [if_neg (by omega)]
    rw [getD_erase, e3]
theorem PA.one {base : Nat} {w : World} {v : Value} {ls : List Pl} {pf mf : Nat → Value} (h : PA base w v ls pf mf) : ∀ n, n ≤ ls.length → ∀ u ∈ rowC ls pf mf n, u.oneCell' = true
  | 0, _, u, hu => by cases hu
  | n + 1, hn, u, hu => by
    rw [rowC] at hu
    rcases List.mem_append.1 hu with hu | hu
    · exact h.one n (by omega) u hu
    · obtain ⟨a1, n1, c1, e1⟩ := (h.pg n hn).shape
      obtain ⟨a2, n2, c2, e2⟩ := (h.mq n hn).shape
      rw [e1, e2] at hu
      simp only [plC, List.mem_cons, List.not_mem_nil, or_false] at hu
      rcases hu with rfl | rfl | rfl | rfl | rfl | rfl | rfl <;> rfl
theorem sg_lt {i m k : Nat} (hk : k < m) : sg i k < m + 1 := by unfold sg; split <;> omega
theorem sg_inj {i j k : Nat} (h : j ≠ k) : sg i j ≠ sg i k := by unfold sg; split <;> split <;> omega
/-- one Player taken out -/
theorem PA.erase {base : Nat} {w w' : World} {v v' : Value} {ls : List Pl} {pf mf : Nat → Value} {S : Nat → Prop} (h : PA base w v ls pf mf) {i m : Nat} (hl : ls.length = m + 1) (hi : i ≤ m)
    (o : OS 69 7 base w' v' m ((rowC ls pf mf (m + 1)).take (i * 7) ++ (rowC ls pf mf (m + 1)).drop ((i + 1) * 7))) (hc : Chg S w w') (hS : ∀ q, S q → own v q ∨ w.heap.size ≤ q) (hn : ∀ q, own v' q → own v q ∨ w.heap.size ≤ q) :
    PA base w' v' (ls.eraseIdx i) (fun k => pf (sg i k)) (fun k => mf (sg i k)) := by
  have hle : (ls.eraseIdx i).length = m := by rw [List.length_eraseIdx, if_pos (by omega)]; omega
  have hno : ∀ k, k < ls.length → ∀ q, (own (pf k) q ∨ own (mf k) q) → ¬ S q := fun k hk q hq hs => by
    rcases hS q hs with h1 | h1
    · exact h.far k hk q hq h1
    · have := (h.inF q (.inr ⟨k, hk, hq⟩)).2; omega
  refine ⟨?_, fun k hk => ?_, fun k hk => ?_, fun k hk q hq hq' => ?_, fun k hk => ?_, fun j k hj hk hne => ?_⟩
  · rw [hle]
    obtain ⟨d, rfl⟩ : ∃ d, m = i + d := ⟨m - i, by omega⟩
    rw [← rowC_erase]; exact o
  · rw [hle] at hk
    rw [getD_erase]
    exact (h.pg (sg i k) (by rw [hl]; exact sg_lt hk)).step hc (fun q hq => hno _ (by rw [hl]; exact sg_lt hk) q (.inl hq))
  · rw [hle] at hk
    rw [getD_erase]
    exact (h.mq (sg i k) (by rw [hl]; exact sg_lt hk)).step hc (fun q hq => hno _ (by rw [hl]; exact sg_lt hk) q (.inr hq))
  · rw [hle] at hk
    rcases hn q hq' with h1 | h1
    · exact h.far _ (by rw [hl]; exact sg_lt hk) q hq h1
    · have := (h.inF q (.inr ⟨_, by rw [hl]; exact sg_lt hk, hq⟩)).2; omega
  · rw [hle] at hk
    exact h.apart _ (by rw [hl]; exact sg_lt hk)
  · rw [hle] at hj hk
    exact h.dis _ _ (by rw [hl]; exact sg_lt hj) (by rw [hl]; exact sg_lt hk) (sg_inj hne)
theorem FA.erase {v v' : Value} {m i : Nat} {pf mf : Nat → Value} {q b : Nat} (hn : own v' q → own v q ∨ b ≤ q) (h : FA v' m (fun k => pf (sg i k)) (fun k => mf (sg i k)) q) : FA v (m + 1) pf mf q ∨ b ≤ q := by
  rcases h with h | ⟨k, hk, h⟩
  · rcases hn h with h | h
    · exact .inl (.inl h)
    · exact .inr h
  · exact .inl (.inr ⟨sg i k, sg_lt hk, h⟩)
end Go.Proofs.YtodnkkmjjlfoiaaGreat
