import Derived.Test.YtdgcohoneijleaaGreatDoorTe
import Derived.Test.YtdgcohoneijleaaGreatDoorPkX18
set_option maxRecDepth 100000
namespace Go.Proofs.YtdgcohoneijleaaGreatDoor
open Go.RowKit
theorem sub_len : ∀ (l m : List Int), l.Nodup → (∀ x, x ∈ l → x ∈ m) → l.length ≤ m.length
 | [], _, _, _ => Nat.zero_le _
 | x :: l, m, hn, h => by
  rw [List.nodup_cons] at hn
  have hx := h x (by simp)
  have h1 := sub_len l (m.erase x) hn.2 (fun y hy => (List.mem_erase_of_ne (fun e => hn.1 (by rw [← e]; exact hy))).2 (h y (by simp [hy])))
  rw [List.length_erase_of_mem hx] at h1
  have := List.length_pos_of_mem hx
  simp only [List.length_cons]
  omega
def upTo (n : Nat) : List Int := (List.range n).map (fun k : Nat => (k : Int))
theorem upTo_mem {n : Nat} {x : Int} : x ∈ upTo n ↔ 0 ≤ x ∧ x < n := by
 simp only [upTo, List.mem_map, List.mem_range]
 constructor
 ·rintro ⟨k, hk, rfl⟩; omega
 ·intro h; exact ⟨x.toNat, by omega, by omega⟩
theorem upTo_nod (n : Nat) : (upTo n).Nodup := by
 unfold upTo
 rw [List.nodup_iff_pairwise_ne, List.pairwise_map]
 exact (List.nodup_iff_pairwise_ne.1 List.nodup_range).imp (fun h e => h (by omega))
theorem upTo_len (n : Nat) : (upTo n).length = n := by simp [upTo]
def IsMiss (l : List Int) (m : Nat) : Prop := (m : Int) ∉ l ∧ ∀ q : Nat, q < m → (q : Int) ∈ l
theorem miss_to (l : List Int) (n : Nat) : (∀ q : Nat, q < n → (q : Int) ∈ l) ∨ ∃ m, m < n ∧ IsMiss l m := by
 induction n with
 | zero => exact .inl (fun q h => absurd h (Nat.not_lt_zero q))
 | succ n ih =>
  rcases ih with h | ⟨m, h1, h2⟩
  ·by_cases hn : (n : Int) ∈ l
   ·refine .inl (fun q hq => ?_)
    by_cases e : q = n
    ·rw [e]; exact hn
    ·exact h q (by omega)
   ·exact .inr ⟨n, by omega, hn, h⟩
  ·exact .inr ⟨m, by omega, h2⟩
theorem miss_le {l : List Int} {n : Nat} (h : ∀ q : Nat, q < n → (q : Int) ∈ l) : n ≤ l.length := by
 have := sub_len (upTo n) l (upTo_nod n) (fun x hx => by
  have := upTo_mem.1 hx
  have := h x.toNat (by omega)
  rwa [show ((x.toNat : Nat) : Int) = x by omega] at this)
 rwa [upTo_len] at this
theorem miss_ex (l : List Int) : ∃ m, m ≤ l.length ∧ IsMiss l m := by
 rcases miss_to l (l.length + 1) with h | ⟨m, h1, h2⟩
 ·have := miss_le h; omega
 ·exact ⟨m, by omega, h2⟩
theorem step_pages_in {c : Ca} (x y : Int) (h : y ∈ (stepC c x).pages) : y ∈ c.pages ∨ y = x := by
 have he : ∀ (l : List Int) (i : Nat), y ∈ l.eraseIdx i → y ∈ l := fun l i h => List.mem_of_mem_eraseIdx h
 unfold stepC at h
 split at h
 ·unfold hitC at h
  split at h
  ·simp only at h
   rcases List.mem_cons.1 h with e | e
   ·left
    by_cases hi : (atI c.pages x).toNat < c.pages.length
    ·rw [e]; exact getD_mem hi
    ·rename_i hh _
     rcases atI_spec c.pages x with ⟨_, k, hk, hk2⟩ | ⟨h1, _⟩
     ·rw [hk2] at hi; omega
     ·rw [h1] at hh; cases hh
   ·exact .inl (he _ _ e)
  ·split at h
   ·exact .inl h
   ·split at h
    ·exact .inl h
    ·exact .inl h
 ·unfold faultC at h
  split at h
  ·unfold clockC at h
   split at h
   ·simp only [List.mem_append, List.mem_singleton] at h; exact h
   ·simp only at h
    rcases List.mem_or_eq_of_mem_set h with e | e
    ·exact .inl e
    ·exact .inr e
  ·simp only at h
   rcases List.mem_cons.1 h with e | e
   ·exact .inr e
   ·left
    split at e
    ·split at e
     ·cases e
     ·exact he _ _ e
    ·exact e
theorem run_mem (l : List Int) : ∀ (c : Ca) (y : Int), y ∈ (runC c l).pages → y ∈ c.pages ∨ y ∈ l := by
 induction l with
 | nil => intro c y h; exact .inl h
 | cons x l ih =>
  intro c y h
  rcases ih (stepC c x) y h with e | e
  ·rcases step_pages_in x y e with e | e
   ·exact .inl e
   ·exact .inr (by simp [e])
  ·exact .inr (by simp [e])
theorem tour_pages {t : To} (ht : tourB t = true) {i : Nat} (hi : i < t.ps.length) : (t.ps.getD i dPl).ca.pages.Nodup ∧ ∀ x ∈ (t.ps.getD i dPl).ca.pages, 0 ≤ x ∧ x < t.items := by
 simp only [tourB, reqB, Bool.and_eq_true, decide_eq_true_eq] at ht
 obtain ⟨⟨⟨_, _⟩, hbel⟩, _, hall⟩ := ht
 have hp : playB (t.ps.getD i dPl) t.reqs = true := by
  rw [List.all_eq_true] at hall
  have := hall t.ps[i] (List.getElem_mem hi)
  rwa [List.getD_eq_getElem?_getD, List.getElem?_eq_getElem hi]
 generalize t.ps.getD i dPl = x at hp
 simp only [playB, sameB, Bool.and_eq_true, beq_iff_eq] at hp
 have hpg := hp.2.1.2.2.2.1
 rw [← hpg]
 show (runC (newC x.ca.pol x.ca.size) (t.reqs.drop x.frm.toNat)).pages.Nodup ∧ _
 refine ⟨nod_run (c := newC x.ca.pol x.ca.size) List.nodup_nil _, fun y hy => ?_⟩
 have hy : y ∈ (runC (newC x.ca.pol x.ca.size) (t.reqs.drop x.frm.toNat)).pages := hy
 rcases run_mem _ _ y hy with e | e
 ·cases e
 ·have hm := List.mem_of_mem_drop e
  simp only [belowB, List.all_eq_true] at hbel
  have := inB_iff.1 (hbel y hm)
  omega
def hasP (t : To) (i : Int) : Bool := inB i 0 ((t.ps.length : Int) - 1)
theorem miss_lt {t : To} (ht : tourB t = true) {i : Nat} (hi : i < t.ps.length) {m : Nat} (hm : IsMiss (t.ps.getD i dPl).ca.pages m) : ((m : Int) < t.items) ↔ ¬ (((t.ps.getD i dPl).ca.pages.length : Int) = t.items) := by
 obtain ⟨h1, h2⟩ := tour_pages ht hi
 have hit : 1 ≤ t.items ∧ t.items ≤ 8 := by
  simp only [tourB, reqB, Bool.and_eq_true, inB_iff] at ht; exact ht.1.1.1
 generalize (t.ps.getD i dPl).ca.pages = l at h1 h2 hm
 have hsub : ∀ x, x ∈ l → x ∈ upTo t.items.toNat := fun x hx => upTo_mem.2 (by have := h2 x hx; omega)
 constructor
 ·intro hlt e
  have := sub_len ((m : Int) :: l) (upTo t.items.toNat) (List.nodup_cons.2 ⟨hm.1, h1⟩) (fun x hx => by
   rcases List.mem_cons.1 hx with e | e
   ·rw [e]; exact upTo_mem.2 (by omega)
   ·exact hsub x e)
  rw [upTo_len, List.length_cons] at this
  omega
 ·intro hne
  have h3 := sub_len l (upTo t.items.toNat) h1 hsub
  rw [upTo_len] at h3
  by_cases hlt : (m : Int) < t.items
  ·exact hlt
  ·have := miss_le (l := l) (n := t.items.toNat) (fun q hq => hm.2 q (by omega))
   omega
set_option maxHeartbeats 400000 in
theorem l12Has_any (v : Value) (t : To) (i : Int) (w : World) (h : RT No w v t) :
  Calls Tryz.prog 111 #[v, .int .i64 i] w (Ret fun r w' => r = .bool (hasP t i) ∧ Chg No w w') := by
 obtain ⟨it, ps, rq⟩ := t
 obtain ⟨pv, rv, rfl, hps, hrq⟩ := h
 simp only at hps hrq ⊢
 obtain ⟨ra, rn, rc, rfl⟩ := hrq.shape
 obtain ⟨a, cap, rfl, hcap, hmax, hlen, _⟩ := id hps
 have k0 := (Chg.refl No w).alloc (.cells #[.int .i64 it, .slice a ps.length cap, .slice ra rn rc] 31)
 have hw1 : IntKind.i64.wrap ((ps.length : Int) - 1) = (ps.length : Int) - 1 := IntWalk.i64_in _ (by omega)
 go_enter Tryz.func111, Tryz.ntmps111
 go_wp2_with fail
 refine (l1In_any _ _ _ _).mono ?_
 rintro e w1 ⟨rfl, rfl⟩
 go_wp2_with fail
 go_ret
 exact ⟨_, rfl, rfl, k0⟩
set_option maxHeartbeats 400000 in
theorem isPlayer_any (v : Value) (t : To) (i : Int) (w : World) (h : RT No w v t) :
  Calls Tryz.prog 106 #[v, .int .i64 i] w (Ret fun r w' => r = .bool (hasP t i) ∧ Chg No w w') := by
 obtain ⟨it, ps, rq⟩ := t
 obtain ⟨pv, rv, rfl, hps, hrq⟩ := h
 simp only at hps hrq ⊢
 obtain ⟨ra, rn, rc, rfl⟩ := hrq.shape
 obtain ⟨a, cap, rfl, hcap, hmax, hlen, _⟩ := id hps
 have k0 := (Chg.refl No w).alloc (.cells #[.int .i64 it, .slice a ps.length cap, .slice ra rn rc] 31)
 have hw1 : IntKind.i64.wrap ((ps.length : Int) - 1) = (ps.length : Int) - 1 := IntWalk.i64_in _ (by omega)
 go_enter Tryz.func106, Tryz.ntmps106
 go_wp2_with fail
 refine (within_any _ _ _ _).mono ?_
 rintro e w1 ⟨rfl, rfl⟩
 go_wp2_with fail
 go_ret
 exact ⟨_, rfl, rfl, k0⟩
set_option maxHeartbeats 1000000 in
theorem l7Missing_any (v : Value) (l : List Int) (m : Nat) (w : World) (h : RI No w v l) (hm : IsMiss l m) :
  Calls Tryz.prog 152 #[v] w fun e w' => e = .returned (.int .i64 (m : Int)) ∧ w = w' := by
 have hml := miss_le hm.2
 have hL := h.len
 obtain ⟨a, n, cap, rfl⟩ := h.shape
 have HM := Lib.hid hm
 clear hm
 go_enter Tryz.func152, Tryz.ntmps152
 go_wp2_with fail
 go_loop [3] (fun i => ∃ j : Nat, j ≤ m ∧ i = .int .i64 j) (fun i => m - (intOf i).toNat)
 case atStart => exact ⟨0, Nat.zero_le _, rfl⟩
 case round =>
  obtain ⟨j, hj, rfl⟩ := hrel
  have hw1 : IntKind.i64.wrap ((j : Int) + 1) = (j : Int) + 1 := IntWalk.i64_in _ (by omega)
  by_cases hlt : j < m
  ·have hh : hasB l (j : Int) = true := hasB_true.2 (HM.out.2 j hlt)
   go_wp2_with fail
   refine (l1Has_any No _ l _ _ h).mono ?_
   rintro e w1 ⟨rfl, rfl⟩
   rw [hh]
   go_wp2_with fail
   go_round
   case rel => exact ⟨j + 1, by omega, by go_num⟩
   case measure => simp [intOf]; omega
  ·have hjm : j = m := by omega
   subst hjm
   have hh : hasB l (j : Int) = false := hasB_false.2 HM.out.1
   go_wp2_with fail
   refine (l1Has_any No _ l _ _ h).mono ?_
   rintro e w1 ⟨rfl, rfl⟩
   rw [hh]
   go_wp2_with fail
   go_ret
   exact ⟨rfl, rfl⟩
set_option maxHeartbeats 1000000 in
theorem cruel_any (v : Value) (t : To) (i : Nat) (m : Nat) (w : World) (h : RT No w v t) (hi : i < t.ps.length) (hm : IsMiss (t.ps.getD i dPl).ca.pages m) (hit : 1 ≤ t.items ∧ t.items ≤ 8) :
  Calls Tryz.prog 147 #[v, .int .i64 (i : Int)] w (Ret fun r w' => r = .int .i64 (if (m : Int) < t.items then (m : Int) else -1) ∧ Chg No w w') := by
 obtain ⟨it, ps, rq⟩ := t
 obtain ⟨pv, rv, rfl, hps, hrq⟩ := h
 simp only at hps hrq hi hm hit ⊢
 obtain ⟨ra, rn, rc, rfl⟩ := hrq.shape
 obtain ⟨a, cap, rfl, hcap, hmax, hlen, pf, mf, hl, hcl⟩ := id hps
 obtain ⟨b, off, rfl, _, hb, hcell⟩ := hcl (by intro e; simp [e] at hi)
 have h7 := hcell i hi
 obtain ⟨hpj, _⟩ := hl i hi
 obtain ⟨l, hl2⟩ : ∃ l, (ps.getD i dPl).ca.pages = l := ⟨_, rfl⟩
 rw [hl2] at hm hpj
 have d3 := h7.c3
 generalize pf i = pj at hpj d3
 obtain ⟨ya, yn, yc, rfl⟩ := hpj.shape
 have hi0 : (0 : Int) ≤ (i : Int) := Int.natCast_nonneg _
 have hi1 : (i : Int) < (ps.length : Int) := by omega
 have k0 := (Chg.refl No w).alloc (.cells #[.int .i64 it, .slice (some ⟨b, off, none⟩) ps.length cap, .slice ra rn rc] 31)
 have b0 := Box3.new w (.int .i64 it) (.slice (some ⟨b, off, none⟩) ps.length cap) (.slice ra rn rc) 31
 have HM := Lib.hid hm
 obtain ⟨R, hR⟩ : ∃ R, (if (m : Int) < it then (m : Int) else -1) = R := ⟨_, rfl⟩
 rw [hR]
 have HR := Lib.hid hR
 clear hm h7 hcell hcl hl hl2 hR
 go_enter Tryz.func147, Tryz.ntmps147
 go_wp2_with fail
 go_loopw [8] (fun k wr => ∃ j : Nat, (j : Int) ≤ it ∧ j ≤ m ∧ k = .int .i64 j ∧ Box3 wr w.heap.size (.int .i64 it) (.slice (some ⟨b, off, none⟩) ps.length cap) (.slice ra rn rc) ∧ Chg No w wr) (fun k _ => 9 - (intOf k).toNat)
 case atStart => exact ⟨0, by omega, Nat.zero_le _, rfl, b0, k0⟩
 case round =>
  clear b0 k0
  obtain ⟨j, hj, hjm, rfl, hb3, hch⟩ := hrel
  have hw1 : IntKind.i64.wrap ((j : Int) + 1) = (j : Int) + 1 := IntWalk.i64_in _ (by omega)
  by_cases hlt : (j : Int) < it
  ·obtain ⟨c0, c1, c2, _⟩ := id hb3
   have d3 := (hch.cellD b _ hb (fun e => e)).trans d3
   by_cases hjl : j < m
   ·have hh : hasB l (j : Int) = true := hasB_true.2 (HM.out.2 j hjl)
    go_wp2_with fail
    refine (Contains_any No _ l _ _ (hpj.keep hch)).mono ?_
    rintro e w1 ⟨rfl, rfl⟩
    rw [hh]
    go_wp2_with fail
    go_round
    case rel => exact ⟨j + 1, by omega, by omega, by go_num, hb3, hch⟩
    case measure => simp [intOf]; omega
   ·have hje : j = m := by omega
    subst hje
    have hh : hasB l (j : Int) = false := hasB_false.2 HM.out.1
    have HR2 : Hid (R = (j : Int)) := Lib.hid (by rw [← HR.out, if_pos hlt])
    go_wp2_with fail
    refine (Contains_any No _ l _ _ (hpj.keep hch)).mono ?_
    rintro e w1 ⟨rfl, rfl⟩
    rw [hh]
    go_wp2_with fail
    go_ret
    exact ⟨_, rfl, by rw [HR2.out]; rfl, hch⟩
  ·have HR2 : Hid (R = -1) := Lib.hid (by rw [← HR.out, if_neg (by omega)])
   go_wp2_with fail
   go_ret
   exact ⟨_, rfl, by rw [HR2.out]; rfl, hch⟩
end Go.Proofs.YtdgcohoneijleaaGreatDoor
namespace Go.Proofs.YtdgcohoneijleaaGreatDoor
open Go.RowKit
noncomputable def missOf (l : List Int) : Nat := Classical.choose (miss_ex l)
theorem missOf_spec (l : List Int) : IsMiss l (missOf l) := (Classical.choose_spec (miss_ex l)).2
noncomputable def cruelI (c : Ca) : Nat → List Int
 | 0 => []
 | n + 1 => cruelI c n ++ [(missOf (runC c (cruelI c n)).pages : Int)]
theorem cruelI_len (c : Ca) (n : Nat) : (cruelI c n).length = n := by
 induction n with
 | zero => rfl
 | succ n ih => simp [cruelI, ih]
theorem runC_one (c : Ca) (l : List Int) (x : Int) : runC c (l ++ [x]) = stepC (runC c l) x := by rw [runC_app]; rfl
def againT (t : To) (l : List Int) : To := ⟨t.items, againP t.ps l, l⟩
theorem againP_len (ps : List Pl) (l : List Int) : (againP ps l).length = ps.length := by simp [againP]
theorem againP_get (ps : List Pl) (l : List Int) (i : Nat) (hi : i < ps.length) : (againP ps l).getD i dPl = wantP (ps.getD i dPl) l := by
 unfold againP
 simp only [List.getD_eq_getElem?_getD, List.getElem?_map, List.getElem?_eq_getElem hi]; rfl
theorem againP_again (ps : List Pl) (l l' : List Int) : againP (againP ps l) l' = againP ps l' := by
 unfold againP
 rw [List.map_map]
 exact List.map_congr_left (fun x _ => wantP_want x l l')
theorem againT_again (t : To) (l l' : List Int) : againT (againT t l) l' = againT t l' := by
 unfold againT; simp only [againP_again]
theorem againT_self {t : To} (ht : tourB t = true) : againT t t.reqs = t := by
 unfold againT; rw [again_self ht]
theorem ca_again {t : To} (ht : tourB t = true) {i : Nat} (hi : i < t.ps.length) (l : List Int) : ((againT t (t.reqs ++ l)).ps.getD i dPl).ca = runC (t.ps.getD i dPl).ca l := by
 obtain ⟨⟨h1, h2⟩, _⟩ := tour_at ht hi
 have e0 : ((againT t t.reqs).ps.getD i dPl).ca = (t.ps.getD i dPl).ca := by rw [againT_self ht]
 simp only [againT] at e0 ⊢
 rw [againP_get _ _ _ hi] at e0 ⊢
 unfold wantP servedP at e0 ⊢
 simp only at e0 ⊢
 rw [List.drop_append_of_le_length (by omega), runC_app, e0]
theorem again_size {t : To} (l : List Int) {i : Nat} (hi : i < t.ps.length) : ((againT t l).ps.getD i dPl).ca.size = (t.ps.getD i dPl).ca.size := by
 simp only [againT]; rw [againP_get _ _ _ hi]; unfold wantP servedP; exact (runP_const _ _).2
theorem reqB_snoc {n : Int} {l m : List Int} (h : reqB n l = true) (hl : l.length + m.length ≤ 60) (hm : ∀ x ∈ m, 0 ≤ x ∧ x < n) : reqB n (l ++ m) = true := by
 unfold reqB at h ⊢
 simp only [Bool.and_eq_true, decide_eq_true_eq, belowB, List.all_eq_true] at h ⊢
 refine ⟨⟨h.1.1, by simp; omega⟩, fun x hx => ?_⟩
 rcases List.mem_append.1 hx with hx | hx
 ·exact h.2 x hx
 ·have := hm x hx
  exact inB_iff.2 ⟨this.1, by omega⟩
theorem tour_reqB {t : To} (ht : tourB t = true) : reqB t.items t.reqs = true := by
 unfold tourB at ht; simp only [Bool.and_eq_true] at ht; exact ht.1
theorem tour_len {t : To} (ht : tourB t = true) : t.ps.length ≤ 4 ∧ t.reqs.length ≤ 60 ∧ 1 ≤ t.items ∧ t.items ≤ 8 := by
 unfold tourB reqB at ht; simp only [Bool.and_eq_true, decide_eq_true_eq, inB_iff] at ht
 exact ⟨ht.2.1, ht.1.1.2, ht.1.1.1⟩
theorem tour_ok {t : To} (ht : tourB t = true) {i : Nat} (hi : i < t.ps.length) : Ok (t.ps.getD i dPl).ca := by
 have h1 := want_self (tour_pl ht hi)
 obtain ⟨_, h2, g1⟩ := tour_at ht hi
 rw [← h1]
 exact ok_run (ok_new h2 g1) _
theorem cruel_facts {t : To} (ht : tourB t = true) {i : Nat} (hi : i < t.ps.length) (hs : (t.ps.getD i dPl).ca.size < t.items) (n : Nat) (hn : t.reqs.length + n ≤ 60) :
  (∀ x ∈ cruelI (t.ps.getD i dPl).ca n, 0 ≤ x ∧ x < t.items) ∧ tourB (againT t (t.reqs ++ cruelI (t.ps.getD i dPl).ca n)) = true := by
 induction n with
 | zero =>
  refine ⟨fun x hx => absurd hx (List.not_mem_nil), ?_⟩
  simp only [cruelI, List.append_nil]
  rw [againT_self ht]; exact ht
 | succ n ih =>
  obtain ⟨h1, h2⟩ := ih (by omega)
  have hi' : i < (againT t (t.reqs ++ cruelI (t.ps.getD i dPl).ca n)).ps.length := by simp only [againT]; rw [againP_len]; exact hi
  have hca := ca_again ht hi (cruelI (t.ps.getD i dPl).ca n)
  have hm := miss_lt h2 hi' (missOf_spec _)
  have hok := (tour_ok h2 hi').len
  rw [again_size _ hi] at hok
  have hit : (againT t (t.reqs ++ cruelI (t.ps.getD i dPl).ca n)).items = t.items := rfl
  rw [hit] at hm
  have hlt := hm.2 (by omega)
  rw [hca] at hlt
  have h3 : ∀ x ∈ cruelI (t.ps.getD i dPl).ca (n + 1), 0 ≤ x ∧ x < t.items := fun x hx => by
   simp only [cruelI] at hx
   rcases List.mem_append.1 hx with hx | hx
   ·exact h1 x hx
   ·rw [List.mem_singleton.1 hx]
    exact ⟨Int.natCast_nonneg _, hlt⟩
  refine ⟨h3, tour_again ht (reqB_snoc (tour_reqB ht) (by rw [cruelI_len]; omega) h3) (fun k hk => ?_)⟩
  have := (tour_at ht hk).1.2
  rw [List.length_append]; omega
def okPlain (t : To) (k a b : Int) : Bool := (b == 0) && (
  if k = 2 then inB a 0 (t.items - 1) && decide (t.reqs.length < 60)
  else if k = 3 then hasP t a
  else if k = 4 then (a == 0) && (decide (0 < t.reqs.length) && decide (latT t.ps t.ps.length < (t.reqs.length : Int)))
  else if k = 5 then inB a 1 t.reqs.length && decide ((t.reqs.length : Int) + a ≤ 60)
  else (k == 7) && (a == 0))
def okStep (t : To) (k a b : Int) : Bool :=
 if k = 1 then okJoin t a b
 else if k = 6 then hasP t a && (decide ((t.ps.getD a.toNat dPl).ca.size < t.items) && inB b 1 (60 - (t.reqs.length : Int)))
 else okPlain t k a b
def leaveT (t : To) (a : Int) : To := ⟨t.items, (againP t.ps t.reqs).eraseIdx a.toNat, t.reqs⟩
noncomputable def stepT (t : To) (k a b : Int) : To :=
 if k = 1 then joinT t a b
 else if k = 6 then againT t (t.reqs ++ cruelI (t.ps.getD a.toNat dPl).ca b.toNat)
 else if k = 2 then againT t (t.reqs ++ [a])
 else if k = 3 then leaveT t a
 else if k = 4 then againT t (t.reqs.take (t.reqs.length - 1))
 else if k = 5 then againT t (t.reqs ++ t.reqs.drop (t.reqs.length - a.toNat))
 else ⟨t.items, clearP t.ps, []⟩
theorem tour_mk {n : Int} {ps : List Pl} {l : List Int} (h1 : reqB n l = true) (h2 : ps.length ≤ 4) (h3 : ∀ x ∈ ps, playB x l = true) : tourB ⟨n, ps, l⟩ = true := by
 unfold tourB
 simp only [Bool.and_eq_true, decide_eq_true_eq, List.all_eq_true]
 exact ⟨h1, h2, h3⟩
theorem tour_again_self {t : To} (ht : tourB t = true) : tourB (againT t t.reqs) = true := by rw [againT_self ht]; exact ht
theorem tour_all {t : To} (ht : tourB t = true) : ∀ x ∈ t.ps, playB x t.reqs = true := by
 unfold tourB at ht; simp only [Bool.and_eq_true, List.all_eq_true] at ht; exact ht.2.2
theorem play_served {f p k : Int} {l : List Int} (hf : 0 ≤ f ∧ f ≤ l.length) (hp : 1 ≤ p ∧ p ≤ 7) (hk : 1 ≤ k ∧ k ≤ 6) (hd : l.drop f.toNat = []) : playB (servedP f p k []) l = true := by
 have := play_want (x := ⟨f, newC p k, 0⟩) (l := l) (inB_iff.2 hf) (inB_iff.2 hp) (inB_iff.2 hk)
 unfold wantP at this
 simp only [hd] at this
 exact this
theorem tour_step {t : To} (ht : tourB t = true) (k a b : Int) (hok : okStep t k a b = true) : tourB (stepT t k a b) = true := by
 obtain ⟨hl1, hl2, hl3, hl4⟩ := tour_len ht
 unfold okStep at hok
 unfold stepT
 by_cases e1 : k = 1
 ·rw [if_pos e1] at hok ⊢
  unfold okJoin at hok
  simp only [Bool.and_eq_true, decide_eq_true_eq, inB_iff] at hok
  unfold joinT
  refine tour_mk (tour_reqB ht) (by rw [List.length_append, againP_len]; simp; omega) (fun x hx => ?_)
  rcases List.mem_append.1 hx with hx | hx
  ·exact tour_all (tour_again_self ht) x hx
  ·rw [List.mem_singleton.1 hx]
   exact play_served ⟨Int.natCast_nonneg _, Int.le_refl _⟩ hok.1 hok.2.1 (by simp)
 rw [if_neg e1] at hok ⊢
 by_cases e6 : k = 6
 ·rw [if_pos e6] at hok ⊢
  unfold hasP at hok
  simp only [Bool.and_eq_true, decide_eq_true_eq, inB_iff] at hok
  exact (cruel_facts ht (i := a.toNat) (by omega) hok.2.1 b.toNat (by omega)).2
 rw [if_neg e6] at hok ⊢
 unfold okPlain at hok
 simp only [Bool.and_eq_true, beq_iff_eq] at hok
 obtain ⟨_, hok⟩ := hok
 by_cases e2 : k = 2
 ·rw [if_pos e2] at hok ⊢
  simp only [Bool.and_eq_true, decide_eq_true_eq, inB_iff] at hok
  exact tour_again ht (reqB_snoc (tour_reqB ht) (by simp; omega) (fun x hx => by rw [List.mem_singleton.1 hx]; omega)) (fun i hi => by have := (tour_at ht hi).1.2; rw [List.length_append]; omega)
 rw [if_neg e2] at hok ⊢
 by_cases e3 : k = 3
 ·rw [if_pos e3] at hok ⊢
  unfold leaveT
  refine tour_mk (tour_reqB ht) ?_ (fun x hx => tour_all (tour_again_self ht) x (List.mem_of_mem_eraseIdx hx))
  rw [List.length_eraseIdx, againP_len]; split <;> omega
 rw [if_neg e3] at hok ⊢
 by_cases e4 : k = 4
 ·rw [if_pos e4] at hok ⊢
  simp only [Bool.and_eq_true, decide_eq_true_eq] at hok
  refine tour_again ht ?_ (fun i hi => ?_)
  ·have h := tour_reqB ht
   unfold reqB at h ⊢
   simp only [Bool.and_eq_true, decide_eq_true_eq, belowB, List.all_eq_true] at h ⊢
   exact ⟨⟨h.1.1, by rw [List.length_take]; omega⟩, fun x hx => h.2 x (List.mem_of_mem_take hx)⟩
  ·have := (latT_lt t.ps _ (by omega) t.ps.length).1 hok.2.2 i hi
   rw [List.length_take]; omega
 rw [if_neg e4] at hok ⊢
 by_cases e5 : k = 5
 ·rw [if_pos e5] at hok ⊢
  simp only [Bool.and_eq_true, decide_eq_true_eq, inB_iff] at hok
  refine tour_again ht (reqB_snoc (tour_reqB ht) (by rw [List.length_drop]; omega) (fun x hx => ?_)) (fun i hi => by have := (tour_at ht hi).1.2; rw [List.length_append]; omega)
  have h := tour_reqB ht
  unfold reqB at h
  simp only [Bool.and_eq_true, decide_eq_true_eq, belowB, List.all_eq_true] at h
  have := inB_iff.1 (h.2 x (List.mem_of_mem_drop hx))
  omega
 rw [if_neg e5] at hok ⊢
 refine tour_mk ?_ (by unfold clearP; rw [List.length_map]; omega) (fun x hx => ?_)
 ·unfold reqB belowB
  simp only [Bool.and_eq_true, inB_iff, decide_eq_true_eq]
  exact ⟨⟨⟨hl3, hl4⟩, by simp⟩, by simp⟩
 ·unfold clearP at hx
  obtain ⟨y, hy, rfl⟩ := List.mem_map.1 hx
  obtain ⟨i, hi, rfl⟩ := List.getElem_of_mem hy
  obtain ⟨_, h2, g1⟩ := tour_at ht hi
  have e : t.ps.getD i dPl = t.ps[i] := by rw [List.getD_eq_getElem?_getD, List.getElem?_eq_getElem hi]; rfl
  rw [e] at h2 g1
  unfold clrP
  exact play_served (by simp) h2 g1 (by simp)
end Go.Proofs.YtdgcohoneijleaaGreatDoor
