import Derived.Test.YtmfhlojmoehmiaaGreatGo
import Derived.Test.YtmfhlojmoehmiaaGreatSo
import Derived.Test.YtmfhlojmoehmiaaGreatQ
import Derived.Test.YtmfhlojmoehmiaaGreatGe
import Derived.Test.YtmfhlojmoehmiaaGreatOw
import Derived.Test.YtmfhlojmoehmiaaGreatO
import Derived.Test.YtmfhlojmoehmiaaGreatP
import Derived.Test.YtmfhlojmoehmiaaGreatBa
import Derived.Test.YtmfhlojmoehmiaaGreatBk
import Derived.Test.YtmfhlojmoehmiaaGreatR
import Derived.Test.YtmfhlojmoehmiaaGreatH
import Derived.Test.YtmfhlojmoehmiaaGreatFi
import Derived.Test.YtmfhlojmoehmiaaGreatFr
import Derived.Test.YtmfhlojmoehmiaaGreatBj
import Derived.Test.YtmfhlojmoehmiaaGreatS
import Derived.Test.YtmfhlojmoehmiaaGreatSs
import Derived.Test.YtmfhlojmoehmiaaGreatA
import Derived.Test.YtmfhlojmoehmiaaGreatCd
import Derived.ChangeKeysEq
/- phases, and what leaves a cache: plain -/
namespace Go.Proofs.YtmfhlojmoehmiaaGreat

/-- after j requests: where the phase of the last of them begins -/
def startP (k : Int) (l : List Int) : Nat → Nat
  | 0 => 0
  | j + 1 => if decide (j = 0) || decide (k < ((diffL ((l.take (j + 1)).drop (startP k l j))).length : Int)) then j else startP k l j
/-- a phase begins at place j -/
def newB (k : Int) (l : List Int) (j : Nat) : Bool := decide (j = 0) || decide (k < ((diffL ((l.take (j + 1)).drop (startP k l j))).length : Int))
theorem startP_succ (k : Int) (l : List Int) (j : Nat) : startP k l (j + 1) = if newB k l j then j else startP k l j := rfl
/-- the places below j at which a phase begins -/
def phF (k : Int) (l : List Int) : Nat → List Int
  | 0 => []
  | j + 1 => if newB k l j then phF k l j ++ [(j : Int)] else phF k l j
theorem phF_succ (k : Int) (l : List Int) (j : Nat) : phF k l (j + 1) = if newB k l j then phF k l j ++ [(j : Int)] else phF k l j := rfl
theorem startP_le (k : Int) (l : List Int) (j : Nat) : startP k l j ≤ j := by
  induction j with
  | zero => exact Nat.le_refl _
  | succ j ih => rw [startP_succ]; split <;> omega
theorem startP_lt (k : Int) (l : List Int) (j : Nat) : startP k l (j + 1) ≤ j := by
  rw [startP_succ]; split
  · exact Nat.le_refl _
  · exact startP_le k l j
theorem phF_len (k : Int) (l : List Int) (j : Nat) : (phF k l j).length ≤ j := by
  induction j with
  | zero => exact Nat.le_refl _
  | succ j ih =>
    rw [phF_succ]
    split
    · simp; omega
    · omega
theorem phF_pos (k : Int) (l : List Int) (j : Nat) : 0 < (phF k l (j + 1)).length := by
  induction j with
  | zero => simp [phF, newB]
  | succ j ih =>
    rw [phF_succ]
    split
    · simp
    · exact ih
theorem phF_last (k : Int) (l : List Int) (j : Nat) : (phF k l (j + 1)).getD ((phF k l (j + 1)).length - 1) 0 = (startP k l (j + 1) : Int) := by
  induction j with
  | zero => simp [phF, newB, startP]
  | succ j ih =>
    rw [phF_succ k l (j + 1), startP_succ k l (j + 1)]
    split
    · rw [List.getD_eq_getElem?_getD, List.length_append, List.length_singleton, Nat.add_sub_cancel, List.getElem?_append_right (Nat.le_refl _)]
      simp
    · exact ih
theorem phF_has (k : Int) (l : List Int) (n i : Nat) : hasB (phF k l n) (i : Int) = (decide (i < n) && newB k l i) := by
  induction n with
  | zero => simp [phF, hasB]
  | succ n ih =>
    rw [phF_succ]
    by_cases hb : newB k l n = true
    · rw [if_pos hb]
      have e : hasB (phF k l n ++ [(n : Int)]) (i : Int) = (hasB (phF k l n) (i : Int) || decide (i = n)) := by
        unfold hasB
        rw [List.contains_append]
        congr 1
        by_cases h : i = n
        · subst h; simp
        · simp [h]; omega
      rw [e, ih]
      by_cases h : i = n
      · subst h; simp [hb]
      · have : decide (i < n + 1) = decide (i < n) := by
          by_cases h2 : i < n
          · simp [h2]; omega
          · simp [h2]; omega
        rw [this]; simp [h]
    · rw [if_neg hb, ih]
      by_cases h : i = n
      · subst h; simp [hb]
      · have : decide (i < n + 1) = decide (i < n) := by
          by_cases h2 : i < n
          · simp [h2]; omega
          · simp [h2]; omega
        rw [this]
/-- the last of the numbers that is at most i -/
def lastLE (i : Int) (a : List Int) : Int := a.foldl (fun f x => if x ≤ i then x else f) 0
theorem lastLE_snoc (i : Int) (a : List Int) (x : Int) : lastLE i (a ++ [x]) = if x ≤ i then x else lastLE i a := by simp [lastLE, List.foldl_append]
theorem lastLE_take (i : Int) (a : List Int) (q : Nat) (h : q < a.length) : lastLE i (a.take (q + 1)) = if a[q] ≤ i then a[q] else lastLE i (a.take q) := by
  rw [List.take_succ_eq_append_getElem h, lastLE_snoc]
theorem lastLE_full (k : Int) (l : List Int) (i : Nat) : ∀ n : Nat, n ≤ i + 1 → lastLE i (phF k l n) = startP k l n := by
  intro n
  induction n with
  | zero => intro _; rfl
  | succ n ih =>
    intro h
    rw [phF_succ, startP_succ]
    split
    · rw [lastLE_snoc, if_pos (by omega)]
    · exact ih (by omega)
theorem lastLE_phF (k : Int) (l : List Int) (i : Nat) : ∀ n : Nat, i < n → lastLE i (phF k l n) = startP k l (i + 1) := by
  intro n
  induction n with
  | zero => intro h; omega
  | succ n ih =>
    intro h
    by_cases hi : i = n
    · subst hi; exact lastLE_full k l i (i + 1) (Nat.le_refl _)
    · rw [phF_succ]
      split
      · rw [lastLE_snoc, if_neg (by omega)]; exact ih (by omega)
      · exact ih (by omega)
/-- what the reference keeps of a phase -/
theorem items_succ (k : Int) (l : List Int) (j : Nat) (hj : j < l.length) :
    putL (diffL ((l.take j).drop (startP k l j))) l[j] = diffL ((l.take (j + 1)).drop (startP k l j)) := by
  rw [List.take_succ_eq_append_getElem hj, List.drop_append_of_le_length (by rw [List.length_take]; have := startP_le k l j; omega), diffL_append]
theorem items_new (l : List Int) (j : Nat) (hj : j < l.length) : diffL ((l.take (j + 1)).drop j) = [l[j]] := by
  rw [List.take_succ_eq_append_getElem hj, List.drop_append_of_le_length (by rw [List.length_take]; omega), List.drop_of_length_le (by rw [List.length_take]; omega)]
  rfl

theorem nod_inj {l : List Int} (h : l.Nodup) {i j : Nat} (hi : i < l.length) (hj : j < l.length) (e : l[i] = l[j]) : i = j := by
  have hp := List.pairwise_iff_getElem.1 h
  rcases Nat.lt_trichotomy i j with h1 | h1 | h1
  · exact absurd e (hp i j hi hj h1)
  · exact h1
  · exact absurd e.symm (hp j i hj hi h1)
theorem gone_erase {l : List Int} (h : l.Nodup) {v : Nat} (hv : v < l.length) (y : Int) : (y ∈ l ∧ y ∉ l.eraseIdx v) ↔ y = l[v] := by
  rw [List.mem_eraseIdx_iff_getElem]
  constructor
  · rintro ⟨h1, h2⟩
    obtain ⟨i, hi, rfl⟩ := List.mem_iff_getElem.1 h1
    by_cases e : i = v
    · subst e; rfl
    · exact absurd ⟨i, hi, e, rfl⟩ h2
  · rintro rfl
    refine ⟨List.getElem_mem hv, ?_⟩
    rintro ⟨i, hi, hne, he⟩
    exact hne (nod_inj h hi hv he)
theorem gone_set {l : List Int} (h : l.Nodup) {v : Nat} (hv : v < l.length) {x : Int} (hx : x ∉ l) (y : Int) : (y ∈ l ∧ y ∉ l.set v x) ↔ y = l[v] := by
  constructor
  · rintro ⟨h1, h2⟩
    obtain ⟨i, hi, rfl⟩ := List.mem_iff_getElem.1 h1
    by_cases e : i = v
    · subst e; rfl
    · refine absurd (List.mem_iff_getElem.2 ⟨i, by simpa using hi, ?_⟩) h2
      rw [List.getElem_set_ne (fun h => e h.symm)]
  · rintro rfl
    refine ⟨List.getElem_mem hv, fun hm => ?_⟩
    obtain ⟨i, hi, he⟩ := List.mem_iff_getElem.1 hm
    rw [List.getElem_set] at he
    split at he
    · exact hx (he ▸ List.getElem_mem hv)
    · rename_i hne
      exact hne (nod_inj h (by simpa using hi) hv he).symm
theorem nod_set {l : List Int} (h : l.Nodup) (v : Nat) {x : Int} (hx : x ∉ l) : (l.set v x).Nodup := by
  refine List.pairwise_iff_getElem.2 (fun i j hi hj hij => ?_)
  rw [List.length_set] at hi hj
  rw [List.getElem_set, List.getElem_set]
  split
  · split
    · omega
    · exact fun e => hx (e ▸ List.getElem_mem hj)
  · split
    · exact fun e => hx (e ▸ List.getElem_mem hi)
    · exact fun e => absurd (nod_inj h hi hj e) (by omega)
theorem nod_erase {l : List Int} (h : l.Nodup) (v : Nat) : (l.eraseIdx v).Nodup := h.sublist (List.eraseIdx_sublist l v)
theorem nod_front {l : List Int} (h : l.Nodup) (v : Nat) (hv : v < l.length) : (l[v] :: l.eraseIdx v).Nodup :=
  List.nodup_cons.2 ⟨((gone_erase h hv l[v]).2 rfl).2, nod_erase h v⟩
theorem hasB_false {l : List Int} {x : Int} : hasB l x = false ↔ x ∉ l := by simp [hasB]
theorem hasB_true {l : List Int} {x : Int} : hasB l x = true ↔ x ∈ l := by simp [hasB]
theorem nod_step {c : Ca} (h : c.pages.Nodup) (x : Int) : (stepC c x).pages.Nodup := by
  unfold stepC
  split
  · rename_i hh
    rcases atI_spec c.pages x with ⟨_, k, hk, he⟩ | ⟨hn, _⟩
    · rw [he]
      unfold hitC
      split
      · simp only [Int.toNat_natCast, List.getD_eq_getElem?_getD, List.getElem?_eq_getElem hk, Option.getD_some]
        exact nod_front h k hk
      · split
        · exact h
        · split <;> exact h
    · rw [hn] at hh; cases hh
  · rename_i hh
    have hx : x ∉ c.pages := hasB_false.1 (by simpa using hh)
    unfold faultC
    split
    · unfold clockC
      split
      · rw [List.nodup_append]
        exact ⟨h, by simp, fun a ha b hb => by
          rw [List.mem_singleton] at hb
          subst hb
          exact fun e => hx (e ▸ ha)⟩
      · exact nod_set h _ hx
    · refine List.nodup_cons.2 ⟨?_, ?_⟩
      · split
        · split
          · simp
          · exact fun hm => hx (List.mem_of_mem_eraseIdx hm)
        · exact hx
      · split
        · split
          · simp
          · exact nod_erase h _
        · exact h
theorem nod_run {c : Ca} (h : c.pages.Nodup) (l : List Int) : (runC c l).pages.Nodup := by
  induction l generalizing c with
  | nil => exact h
  | cons x l ih => exact ih (nod_step h x)
/-- what a request puts out -/
def victL (c : Ca) (x : Int) : List Int := if hasB c.pages x || decide ((c.pages.length : Int) < c.size) then [] else if c.pol = 4 then diffL c.pages else [c.pages.getD (victim c) 0]
theorem victim_in {c : Ca} (h : Ok c) (hf : ¬ (c.pages.length : Int) < c.size) : victim c < c.pages.length := by
  have hs := h.size
  have hl := h.len
  by_cases h6 : c.pol = 6
  · have hh := h.hand
    obtain ⟨_, t2, _⟩ := turn_props c.size.toNat (by omega) (c.marks.length + 1) c.marks c.hand.toNat (by omega)
    unfold victim
    rw [if_neg (by omega), if_neg (by omega), if_pos h6]
    unfold turned
    omega
  · exact victim_lt h (by omega) h6
theorem gone_mem {c : Ca} (h : Ok c) (hn : c.pages.Nodup) (x y : Int) : y ∈ diffL (stay (hasB (stepC c x).pages) c.pages) ↔ y ∈ victL c x := by
  have hs := h.size
  have hl := h.len
  have hst : y ∈ diffL (stay (hasB (stepC c x).pages) c.pages) ↔ y ∈ c.pages ∧ y ∉ (stepC c x).pages := by
    rw [diffL_mem, stay, List.mem_filter]
    simp [hasB]
  rw [hst]
  unfold victL stepC
  cases hh : hasB c.pages x
  · have hx := hasB_false.1 hh
    simp only [Bool.false_or, Bool.false_eq_true, if_false]
    by_cases hf : (c.pages.length : Int) < c.size
    · rw [if_pos (by simpa using hf)]
      simp only [List.not_mem_nil, iff_false, not_and, Classical.not_not]
      intro hy
      unfold faultC
      split
      · unfold clockC; rw [if_pos hf]; exact List.mem_append_left _ hy
      · rw [if_neg (by omega)]; exact List.mem_cons_of_mem _ hy
    · rw [if_neg (by simpa using hf)]
      have hv := victim_in h hf
      have hfe : (c.pages.length : Int) = c.size := by omega
      have hne : ∀ {m : List Int}, (y ∈ c.pages ∧ y ∉ x :: m) ↔ (y ∈ c.pages ∧ y ∉ m) := fun {m} => by
        constructor
        · rintro ⟨h1, h2⟩; exact ⟨h1, fun h => h2 (List.mem_cons_of_mem _ h)⟩
        · rintro ⟨h1, h2⟩
          refine ⟨h1, fun h => ?_⟩
          rcases List.mem_cons.1 h with rfl | h
          · exact hx h1
          · exact h2 h
      have hgd : c.pages.getD (victim c) 0 = c.pages[victim c] := by rw [List.getD_eq_getElem?_getD, List.getElem?_eq_getElem hv]; rfl
      by_cases h4 : c.pol = 4
      · rw [if_pos h4, diffL_mem]
        unfold faultC
        rw [if_neg (by omega), if_pos hfe, if_pos h4]
        simp only [hne]
        simp
      · rw [if_neg h4, List.mem_singleton, hgd]
        unfold faultC
        by_cases h6 : c.pol = 6
        · rw [if_pos h6]
          unfold clockC
          rw [if_neg hf]
          have e : (turned c).2 = victim c := by unfold victim; rw [if_neg (by omega), if_neg (by omega), if_pos h6]
          simp only [e]
          exact gone_set hn hv hx y
        · rw [if_neg h6, if_pos hfe, if_neg h4]
          simp only [hne]
          exact gone_erase hn hv y
  · simp only [Bool.true_or, if_true, List.not_mem_nil, iff_false, not_and, Classical.not_not]
    intro hy
    rcases atI_spec c.pages x with ⟨_, k, hk, he⟩ | ⟨hn', _⟩
    · rw [he]
      unfold hitC
      split
      · simp only [Int.toNat_natCast, List.getD_eq_getElem?_getD, List.getElem?_eq_getElem hk, Option.getD_some]
        by_cases e : y = c.pages[k]
        · rw [e]; exact List.mem_cons_self
        · refine List.mem_cons_of_mem _ (Classical.byContradiction fun hm => e ((gone_erase hn hk y).1 ⟨hy, hm⟩))
      · split
        · exact hy
        · split <;> exact hy
    · rw [hn'] at hh; cases hh
/-- two lists have a number in common -/
def comB (a b : List Int) : Bool := a.any (hasB b)
theorem comB_same {a a' : List Int} (b : List Int) (h : ∀ y, y ∈ a ↔ y ∈ a') : comB a b = comB a' b := by
  unfold comB
  rw [Bool.eq_iff_iff, List.any_eq_true, List.any_eq_true]
  constructor
  · rintro ⟨y, h1, h2⟩; exact ⟨y, (h y).1 h1, h2⟩
  · rintro ⟨y, h1, h2⟩; exact ⟨y, (h y).2 h1, h2⟩
theorem comB_snoc (a b : List Int) (k : Nat) (h : k < a.length) : comB (a.take (k + 1)) b = (comB (a.take k) b || hasB b a[k]) := by
  rw [List.take_succ_eq_append_getElem h, comB, List.any_append]; simp [comB]
theorem comB_hit (a b : List Int) (k : Nat) (h : k < a.length) (hk : hasB b a[k] = true) : comB a b = true := List.any_eq_true.2 ⟨a[k], List.getElem_mem h, hk⟩
/-- place j breaks the rule of marking -/
def breakB (p k : Int) (l : List Int) (j : Nat) : Bool := comB (victL (runC (newC p k) (l.take j)) (l.getD j 0)) ((l.take j).drop (startP k l (j + 1)))
def markV (n p k : Int) (l : List Int) : Option Nat := if askedB n p k l then firstN (breakB p k l) l.length else none
theorem break_gone {p k : Int} (hok : Ok (newC p k)) (l : List Int) (j : Nat) (hj : j < l.length) :
    comB (diffL (stay (hasB (runC (newC p k) (l.take (j + 1))).pages) (runC (newC p k) (l.take j)).pages)) ((l.take j).drop (startP k l (j + 1))) = breakB p k l j := by
  rw [runC_snoc _ _ _ hj, breakB]
  have e : l.getD j 0 = l[j] := by rw [List.getD_eq_getElem?_getD, List.getElem?_eq_getElem hj]; rfl
  rw [e]
  exact comB_same _ (fun y => gone_mem (ok_run hok _) (nod_run (by simp [newC]) _) _ y)
end Go.Proofs.YtmfhlojmoehmiaaGreat

/- the phases of a list of requests, both sides -/
namespace Go.Proofs.YtmfhlojmoehmiaaGreat
open Go.RowKit

set_option maxRecDepth 100000 in
set_option maxHeartbeats 1000000 in
theorem phasesOf_any (A : Nat → Prop) (k : Int) (v : Value) (l : List Int) (w : World) (hv : RI A w v l) (hl : l.length ≤ 1000000) :
    Calls Tryz.prog 100 #[.int .i64 k, v] w (Ret fun r w' => OI w.heap.size w' r (phF k l l.length) ∧ Chg No w w') := by
  obtain ⟨la, lc, rfl, _⟩ := id hv
  have hl0 : (0 : Int) ≤ (l.length : Int) := Int.natCast_nonneg _
  go_enter Tryz.func100, Tryz.ntmps100
  go_wp2_with fail
  go_loopw [5, 10] (fun o i wr => ∃ j : Nat, j ≤ l.length ∧ i = .int .i64 j ∧ OI w.heap.size wr o (phF k l j) ∧ Chg No w wr) (fun _ i _ => l.length - (intOf i).toNat)
  case atStart => exact ⟨0, Nat.zero_le _, rfl, OI.zero (Nat.le_refl _), (Chg.refl No w).alloc _⟩
  case round =>
    obtain ⟨j, hj, rfl, ho, hch⟩ := hrel
    have hj0 : (0 : Int) ≤ (j : Int) := Int.natCast_nonneg _
    by_cases hlt : j < l.length
    · have hj1 : (j : Int) < (l.length : Int) := by omega
      have hw1 : IntKind.i64.wrap ((j : Int) + 1) = (j : Int) + 1 := IntWalk.i64_in _ (by omega)
      have hsz := hch.size
      have hpl := phF_len k l j
      by_cases hz : j = 0
      · subst hz
        have HP : Hid (phF k l (0 + 1) = phF k l 0 ++ [((0 : Nat) : Int)]) := Lib.hid rfl
        obtain ⟨f, hf⟩ : ∃ f, phF k l 0 = f := ⟨_, rfl⟩
        have hf0 : f = [] := hf.symm
        rw [hf] at ho
        have HF := Lib.hid hf
        clear hf
        subst hf0
        obtain ⟨oa, oc, rfl, _⟩ := ho.view
        go_wp2_with (at_builtin; refine wapp1 rfl (.tmp 32) (.tmp 34) rfl ho rfl rfl (by simp) hsz ?_)
        intro o1 w1 h1 k1 f1
        have hch1 : Chg No w w1 := hch.own k1 ho (Nat.le_refl _)
        go_wp2_with fail
        go_round
        case rel => exact ⟨0 + 1, hlt, by go_num, by rw [HP.out, HF.out]; exact h1, hch1⟩
        case measure => simp [intOf]; omega
      · obtain ⟨m, q, s, f, d, hf, hm, hq, hs, hd, hlast, hsl, hps⟩ : ∃ (m q s : Nat) (f d : List Int), phF k l j = f ∧ f.length = m ∧ m = q + 1 ∧ startP k l j = s ∧ diffL ((l.take (j + 1)).drop s) = d ∧ f.getD q 0 = (s : Int) ∧ s < j ∧ phF k l (j + 1) = if k < (d.length : Int) then f ++ [(j : Int)] else f := by
          obtain ⟨i, rfl⟩ : ∃ i, j = i + 1 := ⟨j - 1, by omega⟩
          refine ⟨_, (phF k l (i + 1)).length - 1, _, _, _, rfl, rfl, ?_, rfl, rfl, phF_last k l i, Nat.lt_succ_of_le (startP_lt k l i), ?_⟩
          · have := phF_pos k l i; omega
          · rw [phF_succ k l (i + 1)]; simp [newB]
        rw [hf] at ho hpl
        obtain ⟨oa, oc, rfl, hoc1, hoc2, hcell⟩ := ho.view
        rw [hm] at *
        obtain ⟨g, rfl, _, _, hcells, _⟩ := hcell (by omega)
        have hcq := hcells q (by omega)
        rw [hlast] at hcq
        have hq0 : (0 : Int) ≤ (q : Int) := Int.natCast_nonneg _
        have hwq : IntKind.i64.wrap ((m : Int) - 1) = (q : Int) := by rw [show (m : Int) - 1 = (q : Int) by omega]; exact IntWalk.i64_in _ (by omega)
        have hne : ((m : Int) == 0) = false := by rw [beq_eq_false_iff_ne]; omega
        have hne' : (m == 0) = false := by rw [beq_eq_false_iff_ne]; omega
        have hqm : (q : Int) < (m : Int) := by omega
        obtain ⟨x, hx, hRx⟩ := (hv.keep hch).mid s (j + 1) (s : Int) ((j : Int) + 1) rfl (by omega) (by omega) (by omega)
        have HD := Lib.hid hd
        have HPS := Lib.hid hps
        have HF := Lib.hid hf
        have HM := Lib.hid hm
        clear hcells hcell hd hps hlast hs hf hm hq
        go_wp2_with fail
        refine (rising_any A x _ wr hRx).mono ?_
        rintro e w1 ⟨v1, rfl, o1, k1⟩
        rw [HD.out] at o1
        obtain ⟨a1, c1, rfl, _⟩ := o1.view
        have ho1 := ho.keep k1
        have hch1 := hch.keep k1
        have hsz1 := hch1.size
        clear hcq
        by_cases hgt : k < (d.length : Int)
        · have HP : Hid (phF k l (j + 1) = f ++ [(j : Int)]) := Lib.hid (by rw [HPS.out, if_pos hgt])
          go_wp2_with (at_builtin; refine wapp1 rfl (.tmp 32) (.tmp 34) rfl ho1 rfl rfl (by have := HM.out; omega) hsz1 ?_)
          intro o2 w2 h2 k2 f2
          have hch2 : Chg No w w2 := hch1.own k2 ho1 (Nat.le_refl _)
          go_wp2_with fail
          go_round
          case rel => exact ⟨j + 1, hlt, by go_num, by rw [HP.out]; exact h2, hch2⟩
          case measure => simp [intOf]; omega
        · have HP : Hid (phF k l (j + 1) = f) := Lib.hid (by rw [HPS.out, if_neg hgt])
          go_wp2_with fail
          go_round
          case rel => exact ⟨j + 1, hlt, by go_num, by rw [HP.out]; exact ho1, hch1⟩
          case measure => simp [intOf]; omega
    · have hj' : j = l.length := by omega
      subst hj'
      go_wp2_with fail
      go_ret
      exact ⟨_, rfl, ho, hch⟩

set_option maxRecDepth 100000 in
set_option maxHeartbeats 1000000 in
theorem l4Phases_any (A : Nat → Prop) (k : Int) (v : Value) (l : List Int) (w : World) (hv : RI A w v l) (hl : l.length ≤ 1000000) :
    Calls Tryz.prog 108 #[.int .i64 k, v] w (Ret fun r w' => OI w.heap.size w' r (phF k l l.length) ∧ Chg No w w') := by
  obtain ⟨la, lc, rfl, _, _, _, _, hc⟩ := id hv
  have hl0 : (0 : Int) ≤ (l.length : Int) := Int.natCast_nonneg _
  go_enter Tryz.func108, Tryz.ntmps108
  go_wp2_with fail
  go_loopw [5, 6, 7] (fun o it i wr => ∃ j : Nat, j ≤ l.length ∧ i = .int .i64 j ∧ OI w.heap.size wr o (phF k l j) ∧ OI w.heap.size wr it (diffL ((l.take j).drop (startP k l j))) ∧ Hid (∀ q, own o q → ¬ own it q) ∧ Chg No w wr) (fun _ _ i _ => l.length - (intOf i).toNat)
  case atStart =>
    refine ⟨0, Nat.zero_le _, rfl, (OI.zero (Nat.le_refl _)).alloc _, OI.zeroAt (World.size_alloc ..) (Nat.le_succ _), Lib.hid (fun q h1 h2 => ?_), ((Chg.refl No w).alloc _).alloc _⟩
    have := own_slice.1 h1
    have := own_slice.1 h2
    omega
  case round =>
    obtain ⟨j, hj, rfl, ho, hi, HDJ, hch⟩ := hrel
    have hj0 : (0 : Int) ≤ (j : Int) := Int.natCast_nonneg _
    by_cases hlt : j < l.length
    · obtain ⟨b, off, rfl, _, hb, hcell⟩ := hc (by intro e; simp [e] at hlt)
      have hcl := (hch.cellD b (off + j) hb (fun e => e)).trans (hcell j hlt)
      have hit := items_succ k l j hlt
      have hin := items_new l j hlt
      obtain ⟨y, hy⟩ : ∃ y, l[j] = y := ⟨_, rfl⟩
      have hgy : l.getD j 0 = y := by rw [← hy, List.getD_eq_getElem?_getD, List.getElem?_eq_getElem hlt]; rfl
      rw [hgy] at hcl
      rw [hy] at hit hin
      have hj1 : (j : Int) < (l.length : Int) := by omega
      have hw1 : IntKind.i64.wrap ((j : Int) + 1) = (j : Int) + 1 := IntWalk.i64_in _ (by omega)
      have hsz := hch.size
      have hpl := phF_len k l j
      have hil : (diffL ((l.take j).drop (startP k l j))).length < 17592186044416 := by have := diffL_len_le ((l.take j).drop (startP k l j)); rw [List.length_drop, List.length_take] at this; omega
      have hps := phF_succ k l j
      have hss := startP_succ k l j
      obtain ⟨d, hd⟩ : ∃ d, diffL ((l.take (j + 1)).drop (startP k l j)) = d := ⟨_, rfl⟩
      have hnb : newB k l j = (decide (j = 0) || decide (k < (d.length : Int))) := by rw [← hd]; rfl
      rw [hd] at hit
      have HIN := Lib.hid hin
      have HD := Lib.hid hd
      have HPS := Lib.hid hps
      have HSS := Lib.hid hss
      have HIT := Lib.hid hit
      have HNB := Lib.hid hnb
      have HC := Lib.hid hc
      obtain ⟨ia, ic, hie, _⟩ := hi.view
      subst hie
      obtain ⟨oa, on, oc, rfl⟩ := ho.shape
      clear hcell hd hps hss hit hnb hc hy hgy hin
      go_wp2_with fail
      refine (l1Put_any w.heap.size _ _ y wr hi hsz hil).mono ?_
      rintro e w1 ⟨v1, rfl, o1, k1, f1⟩
      rw [HIT.out] at o1
      obtain ⟨a1, c1, rfl, _⟩ := o1.view
      have ho1 := ho.keep k1
      have hch1 := hch.keep k1
      have hsz1 := hch1.size
      have hcl1 := (k1.cellD b (off + j) (Nat.lt_of_lt_of_le hb hsz) (fun e => e)).trans hcl
      have F1 := Lib.hid f1
      clear f1 hcl
      by_cases hz : j = 0
      · have HB : Hid (newB k l j = true) := Lib.hid (by rw [HNB.out]; simp [hz])
        have HP : Hid (phF k l (j + 1) = phF k l j ++ [(j : Int)]) := Lib.hid (by rw [HPS.out, if_pos HB.out])
        have HI : Hid (diffL ((l.take (j + 1)).drop (startP k l (j + 1))) = [y]) := Lib.hid (by rw [HSS.out, if_pos HB.out, HIN.out])
        have hze : ((j : Int) == 0) = true := by rw [beq_iff_eq]; omega
        clear hz
        go_wp2_with (at_builtin; refine wapp1 rfl (.tmp 31) (.tmp 33) rfl ho1 rfl rfl (by omega) hsz1 ?_)
        intro o2 w2 h2 k2 f2
        have hch2 : Chg No w w2 := hch1.own k2 ho1 (Nat.le_refl _)
        have hcl2 := (k2.cellD b (off + j) (Nat.lt_of_lt_of_le hb hsz1) (fun hq => by have := (ho1.lt _ hq).1; omega)).trans hcl1
        have hsz2 := hch2.size
        go_wp2_with fail
        go_round
        case rel => exact ⟨j + 1, hlt, by go_num, by rw [HP.out]; exact h2.alloc _, by rw [HI.out]; exact OI.one hsz2, Lib.hid (fun q hq hq' => by have := own_slice.1 hq'; have := (h2.lt q hq).2; omega), hch2.alloc _⟩
        case measure => simp [intOf]; omega
      · have hze : ((j : Int) == 0) = false := by rw [beq_eq_false_iff_ne]; omega
        have hze' : (j == 0) = false := by rw [beq_eq_false_iff_ne]; omega
        by_cases hgt : k < (d.length : Int)
        · have HB : Hid (newB k l j = true) := Lib.hid (by rw [HNB.out]; simp [hgt])
          have HP : Hid (phF k l (j + 1) = phF k l j ++ [(j : Int)]) := Lib.hid (by rw [HPS.out, if_pos HB.out])
          have HI : Hid (diffL ((l.take (j + 1)).drop (startP k l (j + 1))) = [y]) := Lib.hid (by rw [HSS.out, if_pos HB.out, HIN.out])
          go_wp2_with (at_builtin; refine wapp1 rfl (.tmp 31) (.tmp 33) rfl ho1 rfl rfl (by omega) hsz1 ?_)
          intro o2 w2 h2 k2 f2
          have hch2 : Chg No w w2 := hch1.own k2 ho1 (Nat.le_refl _)
          have hcl2 := (k2.cellD b (off + j) (Nat.lt_of_lt_of_le hb hsz1) (fun hq => by have := (ho1.lt _ hq).1; omega)).trans hcl1
          have hsz2 := hch2.size
          go_wp2_with fail
          go_round
          case rel => exact ⟨j + 1, hlt, by go_num, by rw [HP.out]; exact h2.alloc _, by rw [HI.out]; exact OI.one hsz2, Lib.hid (fun q hq hq' => by have := own_slice.1 hq'; have := (h2.lt q hq).2; omega), hch2.alloc _⟩
          case measure => simp [intOf]; omega
        · have HB : Hid (newB k l j = false) := Lib.hid (by rw [HNB.out]; simp [hgt, hz])
          have HP : Hid (phF k l (j + 1) = phF k l j) := Lib.hid (by rw [HPS.out, HB.out]; rfl)
          have HI : Hid (diffL ((l.take (j + 1)).drop (startP k l (j + 1))) = d) := Lib.hid (by rw [HSS.out, HB.out, ← HD.out]; rfl)
          clear hcl1
          go_wp2_with fail
          go_round
          case rel => exact ⟨j + 1, hlt, by go_num, by rw [HP.out]; exact ho1, by rw [HI.out]; exact o1, Lib.hid (fun q hq hq' => by
            rcases F1.out q hq' with h | h
            · exact HDJ.out q hq h
            · have := (ho.lt q hq).2; omega), hch1⟩
          case measure => simp [intOf]; omega
    · have hj' : j = l.length := by omega
      subst hj'
      clear hc
      go_wp2_with fail
      go_ret
      exact ⟨_, rfl, ho, hch⟩

set_option maxHeartbeats 400000 in
theorem l4Common_any (A B : Nat → Prop) (v vb : Value) (l lb : List Int) (w : World) (h : RI A w v l) (hb : RI B w vb lb) :
    Calls Tryz.prog 111 #[v, vb] w fun e w' => e = .returned (.bool (comB l lb)) ∧ w = w' := by
  obtain ⟨a, cap, rfl, hcap, hmax, hlen, _, hc⟩ := h
  obtain ⟨ba, bn, bc, rfl⟩ := hb.shape
  go_enter Tryz.func111, Tryz.ntmps111
  go_wp2
  go_loop [4, 5] (fun r i => ∃ k : Nat, k ≤ l.length ∧ i = .int .i64 k ∧ r = .bool false ∧ comB (l.take k) lb = false) (fun _ i => l.length - (intOf i).toNat)
  case atStart => exact ⟨0, Nat.zero_le _, rfl, rfl, rfl⟩
  case round =>
    obtain ⟨k, hk, rfl, rfl, hh⟩ := hrel
    have H := Lib.hid hh
    clear hh
    by_cases hlt : k < l.length
    · obtain ⟨b, off, rfl, _, _, hcell⟩ := hc (by intro e; simp [e] at hlt)
      have hck := hcell k hlt
      have hs := Lib.hid (comB_snoc l lb k hlt)
      have ht := Lib.hid (comB_hit l lb k hlt)
      go_wp2_with (go_at_call 110; refine (l1Has_any B _ _ _ _ hb).mono ?_; rintro e w' ⟨rfl, rfl⟩)
      · go_ret
        have h : hasB lb l[k] = true := by assumption
        exact ⟨ret_bool (ht.out h).symm, rfl⟩
      · have h : hasB lb l[k] = false := by assumption
        go_round
        case rel => exact ⟨k + 1, by omega, by go_num, rfl, by rw [hs.out, H.out, h]; rfl⟩
        case measure => simp [intOf]; omega
    · have hkl : k = l.length := by omega
      go_wp2
      go_ret
      subst hkl
      exact ⟨ret_bool (by have := H.out; rw [List.take_length] at this; exact this.symm), rfl⟩
end Go.Proofs.YtmfhlojmoehmiaaGreat

/- the run of a cache with a closure of three cells -/
namespace Go.Proofs.YtmfhlojmoehmiaaGreat
open Go.RowKit

structure Each3 (f : FuncId) (c1 c2 c3 : Value) (base : Nat) (c : Ca) (l : List Int) (J : Nat → (Nat → Prop) → World → Prop) : Prop where
  lt : ∀ j U w, J j U w → ∀ q, U q → q < w.heap.size
  keep : ∀ j U w w' S, J j U w → Chg S w w' → (∀ q, U q → ¬ S q) → (∀ q, S q → base ≤ q) → J j U w'
  call : ∀ j U w xb xa, j < l.length → J j U w → RI U w xb (runC c (l.take j)).pages → RI U w xa (runC c (l.take (j + 1))).pages →
    Calls Tryz.prog f #[.int .i64 (j : Int), xb, xa, .bool (!hasB (runC c (l.take j)).pages (l.getD j 0)), c1, c2, c3] w (Ret fun v' w' => v' = .tuple #[] ∧ ∃ U', J (j + 1) U' w' ∧ Chg U w w' ∧ ∀ q, U' q → U q ∨ w.heap.size ≤ q)

set_option maxRecDepth 100000 in
set_option maxHeartbeats 2000000 in
theorem run3_any (f : FuncId) (c1 c2 c3 : Value) (p k : Int) (v : Value) (l : List Int) (J : Nat → (Nat → Prop) → World → Prop) (U0 : Nat → Prop) (w : World) (hJ : Each3 f c1 c2 c3 w.heap.size (newC p k) l J) (h0 : J 0 U0 w)
    (hcf : ∀ x0 x1 x2 x3 (w : World), (callFunc f #[x0, x1, x2, x3, c1, c2, c3]).run Tryz.prog w = .ok (.enter f #[x0, x1, x2, x3, c1, c2, c3]) w)
    (hv : RI U0 w v l) (hok : Ok (newC p k)) :
    Calls Tryz.prog 101 #[.int .i64 p, .int .i64 k, v, .func (.func f) #[] #[c1, c2, c3]] w (Ret fun v' w' => v' = .tuple #[] ∧ ∃ U', J l.length U' w' ∧ Chg U0 w w' ∧ ∀ q, U' q → U0 q ∨ w.heap.size ≤ q) := by
  obtain ⟨a, cap, rfl, hcap, hmax, hlen, _, hc⟩ := id hv
  go_enter Tryz.func101, Tryz.ntmps101
  go_wp2_with fail
  go_loopw [18] (fun i wr => ∃ (j : Nat) (pv mv : Value) (U : Nat → Prop), j ≤ l.length ∧ i = .int .i64 j ∧ MC w.heap.size wr w.heap.size (runC (newC p k) (l.take j)) pv mv ∧ J j U wr ∧ Chg U0 w wr ∧
      (∀ q, U q → U0 q ∨ w.heap.size ≤ q) ∧ (∀ q, foot w.heap.size pv mv q → ¬ U q)) (fun i _ => l.length - (intOf i).toNat)
  case atStart =>
    refine ⟨0, .slice none 0 0, .slice none 0 0, U0, Nat.zero_le _, rfl, ⟨Box.new w _ _ _ _ _ _, OI.nil _ _, OI.nil _ _, fun q hq => ?_, fun hq => ?_, fun hq => ?_⟩, hJ.keep _ _ _ _ No h0 ((Chg.refl No w).alloc _) (fun _ _ e => e) (fun _ e => e.elim), (Chg.refl U0 w).alloc _, fun q hq => .inl hq, fun q hq hU => ?_⟩
    · simp [own, Value.ownBlock] at hq
    · simp [own, Value.ownBlock] at hq
    · simp [own, Value.ownBlock] at hq
    · have := hJ.lt _ _ _ h0 q hU
      rcases hq with rfl | hq | hq
      · omega
      · simp [own, Value.ownBlock] at hq
      · simp [own, Value.ownBlock] at hq
  case round =>
    obtain ⟨j, pv, mv, U, hj, rfl, hM, hJj, hch, hU, hdis⟩ := hrel
    by_cases hlt : j < l.length
    · obtain ⟨br, off, rfl, hbr, hbl, hcell⟩ := hc (by intro e; simp [e] at hlt)
      have hcl := (hch.cellD br (off + j) hbl hbr).trans (hcell j hlt)
      obtain ⟨ck, hck⟩ : ∃ ck, runC (newC p k) (l.take j) = ck := ⟨_, rfl⟩
      have hokk : Ok ck := hck ▸ ok_run hok _
      have hrun := runC_snoc (newC p k) l j hlt
      have hcall := hJ.call j U
      have HC0 := hck
      obtain ⟨y, hy⟩ : ∃ y, l[j] = y := ⟨_, rfl⟩
      have hgy : l.getD j 0 = y := by rw [← hy, List.getD_eq_getElem?_getD, List.getElem?_eq_getElem hlt]; rfl
      rw [hck, hy] at hrun
      rw [hrun, hck, hgy] at hcall
      rw [hgy] at hcl
      rw [hck] at hM
      have HR := Lib.hid hrun
      have HC := Lib.hid hcall
      have hj0 : (0 : Int) ≤ (j : Int) := Int.natCast_nonneg _
      have hj1 : (j : Int) < (l.length : Int) := by omega
      have hw1 : IntKind.i64.wrap ((j : Int) + 1) = (j : Int) + 1 := IntWalk.i64_in _ (by omega)
      have HJ := Lib.hid hJ
      have HCF := Lib.hid hcf
      clear hcell hc hrun hcall hck HC0 hgy hy hJ
      obtain ⟨a1, n1, q1, rfl⟩ := hM.pages.shape
      have c2 := hM.box.c2
      go_wp2_with fail
      refine (Clone_any U _ ck.pages wr (hM.pages.read (fun q hq => hdis q (.inr (.inl hq))))).mono ?_
      rintro e w1 ⟨v1, rfl, o1, k1⟩
      have hM1 := hM.keep k1 (fun _ _ e => e)
      clear c2
      go_wp2_with fail
      refine (step_any w.heap.size w.heap.size ck y _ mv w1 hM1 (by have := hch.size; have := k1.size; omega) hokk).mono ?_
      rintro e w2 ⟨v2, rfl, rfl, hA⟩
      obtain ⟨pv2, mv2, A2⟩ := hA.am
      obtain ⟨a2, n2, q2, rfl⟩ := A2.mc.pages.shape
      have c2 := A2.mc.box.c2
      have hz1 := k1.size
      have hz2 := A2.ch.size
      have hd2 : ∀ q, foot w.heap.size (.slice a2 n2 q2) mv2 q → ¬ U q := fun q hq hU' => by
        rcases A2.fr q hq with h1 | h1
        · exact hdis q h1 hU'
        · have := HJ.out.lt _ _ _ hJj q hU'; omega
      go_wp2_with fail
      refine (Clone_any U _ _ w2 (A2.mc.pages.read (fun q hq => hd2 q (.inr (.inl hq))))).mono ?_
      rintro e w3 ⟨v3, rfl, o3, k3⟩
      have hz3 := k3.size
      clear c2
      have hcf := HCF.out
      go_wp2_with fail
      clear hcf
      have hlo : ∀ q, foot w.heap.size (.slice a1 n1 q1) mv q → w.heap.size ≤ q := fun q hq => by
        rcases hq with rfl | hq | hq
        · exact Nat.le_refl _
        · exact (hM.pages.lt q hq).1
        · exact (hM.marks.lt q hq).1
      have hJ3 := HJ.out.keep _ _ _ _ _ (HJ.out.keep _ _ _ _ _ (HJ.out.keep _ _ _ _ No hJj k1 (fun _ _ e => e) (fun _ e => e.elim)) A2.ch (fun q hq hq' => hdis q hq' hq) (fun q hq => hlo q hq)) k3 (fun _ _ e => e) (fun _ e => e.elim)
      have hlU := HJ.out.lt _ _ _ hJj
      refine (HC.out w3 v1 v3 hlt hJ3 (((o1.step A2.ch (fun q hq hq' => by have := (o1.lt q hq).1; have := hM.footLt q hq'; omega)).keep k3).read (fun q hq hq' => by have := (o1.lt q hq).1; have := hlU q hq'; omega))
        (o3.read (fun q hq hq' => by have := (o3.lt q hq).1; have := hlU q hq'; omega))).mono ?_
      rintro e w4 ⟨v4, rfl, rfl, U4, hJ4, k4, f4⟩
      go_wp2_with fail
      go_round
      case rel =>
        refine ⟨j + 1, .slice a2 n2 q2, mv2, U4, hlt, by go_num, ?_, hJ4, ?_, fun q hq => ?_, fun q hq hq' => ?_⟩
        · rw [HR.out]
          exact (A2.mc.keep k3 (fun _ _ e => e)).keep k4 (fun q hq => hd2 q hq)
        · refine ((((hch.keep k1).step A2.ch (fun q hq hl => ?_)).keep k3).step k4 (fun q hq hl => ?_))
          · have := hlo q hq; omega
          · rcases hU q hq with h1 | h1
            · exact h1
            · omega
        · rcases f4 q hq with h1 | h1
          · exact hU q h1
          · exact .inr (by have := hch.size; omega)
        · rcases f4 q hq' with h1 | h1
          · exact hd2 q hq h1
          · have := (A2.mc.keep k3 (fun _ _ e => e)).footLt q hq; omega
      case measure => simp [intOf]; omega
    · have hj' : j = l.length := by omega
      subst hj'
      go_wp2_with fail
      go_end0
      exact ⟨_, rfl, rfl, U, hJj, hch, hU⟩
end Go.Proofs.YtmfhlojmoehmiaaGreat

/- what a request puts out, in the reference -/
namespace Go.Proofs.YtmfhlojmoehmiaaGreat
open Go.RowKit

set_option maxRecDepth 100000 in
set_option maxHeartbeats 1000000 in
theorem l4Victims_any (A : Nat → Prop) (v : Value) (c : Ca) (x : Int) (w : World) (hv : RC A w v c) (hok : Ok c) :
    Calls Tryz.prog 112 #[v, .int .i64 x] w (Ret fun r w' => OI w.heap.size w' r (victL c x) ∧ Chg No w w') := by
  obtain ⟨pv, mv, rfl, hp, hmk⟩ := id hv
  obtain ⟨pa, pc, rfl, _, _, _, _, hcell⟩ := id hp
  obtain ⟨ma, mn, mc, rfl⟩ := hmk.shape
  have k0 := (Chg.refl No w).alloc (.cells #[.int .i64 c.pol, .int .i64 c.size, .slice pa c.pages.length pc, .slice ma mn mc, .int .i64 c.hand] 74)
  have hbox := Box.new w (.int .i64 c.pol) (.int .i64 c.size) (.slice pa c.pages.length pc) (.slice ma mn mc) (.int .i64 c.hand) 74
  cases hh : hasB c.pages x
  · by_cases hf : (c.pages.length : Int) < c.size
    · have HV : Hid (victL c x = []) := Lib.hid (by unfold victL; rw [hh]; simp [hf])
      obtain ⟨c0, c1, c2, c3, c4, fr⟩ := id hbox
      go_enter Tryz.func112, Tryz.ntmps112
      go_wp2_with fail
      refine (l1Has_any A _ _ x _ (hp.keep k0)).mono ?_
      rintro e w1 ⟨rfl, rfl⟩
      rw [hh]
      go_wp2_with fail
      go_ret
      exact ⟨_, rfl, by rw [HV.out]; exact OI.zeroAt (World.size_alloc ..) (Nat.le_succ _), k0.alloc _⟩
    · by_cases h4 : c.pol = 4
      · have HV : Hid (victL c x = diffL c.pages) := Lib.hid (by unfold victL; rw [hh]; simp [hf, h4])
        have h4' : (c.pol == 4) = true := by rw [beq_iff_eq]; exact h4
        clear h4
        obtain ⟨c0, c1, c2, c3, c4, fr⟩ := id hbox
        go_enter Tryz.func112, Tryz.ntmps112
        go_wp2_with fail
        refine (l1Has_any A _ _ x _ (hp.keep k0)).mono ?_
        rintro e w1 ⟨rfl, rfl⟩
        rw [hh]
        go_wp2_with fail
        refine (l4Sorted_any A _ _ _ (hp.keep k0)).mono ?_
        rintro e w2 ⟨v2, rfl, o2, k2⟩
        go_wp2_with fail
        go_ret
        exact ⟨_, rfl, by rw [HV.out]; exact o2.weak k0.size, k0.keep k2⟩
      · have hvi := victim_in hok hf
        have hfe : (c.pages.length : Int) = c.size := by have := hok.len; omega
        have HV : Hid (victL c x = [c.pages.getD (victim c) 0]) := Lib.hid (by unfold victL; rw [hh]; simp [hf, h4])
        have h4' : (c.pol == 4) = false := by rw [beq_eq_false_iff_ne]; exact h4
        have hvc := hv.keep k0
        obtain ⟨b, off, rfl, _, hb, hcl⟩ := hcell (by intro e; simp [e] at hvi)
        have hcv := (k0.cellD b (off + victim c) hb (fun e => e)).trans (hcl (victim c) hvi)
        obtain ⟨z, hz⟩ : ∃ z, c.pages.getD (victim c) 0 = z := ⟨_, rfl⟩
        rw [hz] at hcv HV
        have hb1 := Nat.lt_of_lt_of_le hb k0.size
        have hvi0 : (0 : Int) ≤ (victim c : Int) := Int.natCast_nonneg _
        have hvi1 : (victim c : Int) < (c.pages.length : Int) := by omega
        obtain ⟨c0, c1, c2, c3, c4, fr⟩ := id hbox
        clear hcl hcell hz
        have HOK := Lib.hid hok
        have HVC := Lib.hid hvc
        clear hvc
        go_enter Tryz.func112, Tryz.ntmps112
        go_wp2_with fail
        refine (l1Has_any A _ _ x _ (hp.keep k0)).mono ?_
        rintro e w1 ⟨rfl, rfl⟩
        rw [hh]
        go_wp2_with fail
        refine wp_region_K (S := fun W => Box W w.heap.size (.int .i64 c.pol) (.int .i64 c.size) (.slice (some ⟨b, off, none⟩) c.pages.length pc) (.slice ma mn mc) (.int .i64 c.hand)) (k := 4) (by kernel_rfl) ?_
        have hd0 : Chg No (w.alloc (.cells #[.int .i64 c.pol, .int .i64 c.size, .slice (some ⟨b, off, none⟩) c.pages.length pc, .slice ma mn mc, .int .i64 c.hand] 74)) _ := (Chg.refl No _).drew
        have hS : (fun W => Box W w.heap.size (.int .i64 c.pol) (.int .i64 c.size) (.slice (some ⟨b, off, none⟩) c.pages.length pc) (.slice ma mn mc) (.int .i64 c.hand)) _ := hbox.keep hd0
        have hcv := (hd0.cellD b (off + victim c) hb1 (fun e => e)).trans hcv
        have hvc := HVC.out.keep hd0
        have kd := k0.keep hd0
        clear c0 c1 c2 c3 c4 fr hbox
        generalize World.drew _ = W at hS hcv hvc kd ⊢
        clear hd0
        refine wpAnyK_take0 0 (.pointer (some ⟨w.heap.size, 2, none⟩)) rfl (by kernel_rfl) (fun _ _ _ h => h) hS rfl (by intro w; go_simp) ?_
        simp only [List.getElem_toArray, List.getElem_cons_zero, Act.put, List.setIfInBounds_toArray, List.set_cons_zero, List.set_cons_succ]
        refine wpAnyK_take 1 (.slice (some ⟨b, off, none⟩) c.pages.length pc) rfl (by kernel_rfl) (fun _ _ _ h => h) hS rfl (by rintro w ⟨c0, c1, c2, c3, c4, fr⟩; go_simp) ?_
        simp only [List.getElem_toArray, List.getElem_cons_succ, List.getElem_cons_zero, Act.put, List.setIfInBounds_toArray, List.set_cons_zero, List.set_cons_succ]
        refine wpAnyK_1 2 (by kernel_rfl) (wpOpK' rfl rfl ?_)
        intro K hK
        obtain ⟨c0, c1, c2, c3, c4, fr⟩ := id hS
        unfold Oper.wp execOp
        go_simp
        refine hK.out _ _ hS ?_
        clear hK K c0 c1 c2 c3 c4 fr
        simp only [List.setIfInBounds_toArray]
        refine wpAnyK_1 3 (by kernel_rfl) (wpOpK' rfl rfl ?_)
        intro K hK
        refine ocall (f := 174) (args := #[.agg #[.int .i64 c.pol, .int .i64 c.size, .slice (some ⟨b, off, none⟩) c.pages.length pc, .slice ma mn mc, .int .i64 c.hand]]) (by go_simp) (l4Victim_any A _ c W hvc HOK.out hfe) (fun v1 W1 h1 => hK.out _ _ (hS.keep h1.2) ?_)
        obtain ⟨rfl, k1⟩ := h1
        clear hK K
        simp only [List.getElem_toArray, List.getElem_cons_succ, List.getElem_cons_zero, Act.put, List.setIfInBounds_toArray, List.set_cons_zero, List.set_cons_succ]
        have hcv := (k1.cellD b (off + victim c) (Nat.lt_of_lt_of_le hb kd.size) (fun e => e)).trans hcv
        have k2 := kd.keep k1
        have hsz := k2.size
        refine wpAnyK_tail 4 rfl (by kernel_rfl) ?_
        simp only [List.drop_succ_cons, List.drop_zero]
        clear hS
        go_wp2_with fail
        go_ret
        exact ⟨_, rfl, by rw [HV.out]; exact OI.one hsz, k2.alloc _⟩
  · have HV : Hid (victL c x = []) := Lib.hid (by unfold victL; rw [hh]; rfl)
    obtain ⟨c0, c1, c2, c3, c4, fr⟩ := id hbox
    go_enter Tryz.func112, Tryz.ntmps112
    go_wp2_with fail
    refine (l1Has_any A _ _ x _ (hp.keep k0)).mono ?_
    rintro e w1 ⟨rfl, rfl⟩
    rw [hh]
    go_wp2_with fail
    go_ret
    exact ⟨_, rfl, by rw [HV.out]; exact OI.zeroAt (World.size_alloc ..) (Nat.le_succ _), k0.alloc _⟩
end Go.Proofs.YtmfhlojmoehmiaaGreat

/- VictimsOf, both sides -/
namespace Go.Proofs.YtmfhlojmoehmiaaGreat
open Go.RowKit

theorem putL_old {l : List Int} {n : Int} (h : Up l) (hn : n ∈ l) : putL l n = l := by
  induction l with
  | nil => cases hn
  | cons a l ih =>
    unfold Up at h
    rw [List.pairwise_cons] at h
    unfold putL
    rcases List.mem_cons.1 hn with rfl | hn
    · simp
    · have := h.1 n hn
      rw [if_pos this, ih h.2 hn]
theorem foldl_put_nod : ∀ (l acc : List Int), Up acc → (l.foldl putL acc).length = acc.length + l.length → l.Nodup ∧ ∀ x ∈ l, x ∉ acc
  | [], acc, _, _ => ⟨List.nodup_nil, fun x h => by cases h⟩
  | a :: l, acc, hu, h => by
    rw [List.foldl_cons, List.length_cons] at h
    have h1 : ∀ (l acc : List Int), (l.foldl putL acc).length ≤ acc.length + l.length := by
      intro l
      induction l with
      | nil => simp
      | cons a l ih => intro acc; have := ih (putL acc a); have := putL_len acc a; simp only [List.foldl_cons, List.length_cons]; omega
    have h2 := h1 l (putL acc a)
    have h3 := putL_len acc a
    obtain ⟨g1, g2⟩ := foldl_put_nod l (putL acc a) (putL_up a hu) (by omega)
    have ha : a ∉ acc := fun hm => by have := congrArg List.length (putL_old hu hm); omega
    refine ⟨List.nodup_cons.2 ⟨fun hm => g2 a hm (putL_mem.2 (.inr rfl)), g1⟩, fun x hx => ?_⟩
    rcases List.mem_cons.1 hx with rfl | hx
    · exact ha
    · exact fun hm => g2 x hx (putL_mem.2 (.inl hm))
theorem goodC_nod {n : Int} {c : Ca} (h : goodC n c = true) : c.pages.Nodup := by
  simp only [goodC, Bool.and_eq_true, decide_eq_true_eq] at h
  exact (foldl_put_nod c.pages [] List.Pairwise.nil (by have := h.1.1.2; unfold diffL at this; simpa using this)).1
theorem victL_up (c : Ca) (x : Int) : Up (victL c x) := by
  unfold victL
  split
  · exact List.Pairwise.nil
  · split
    · exact diffL_up _
    · simp [Up]
theorem gone_vict {n : Int} {c : Ca} (h : goodC n c = true) (x : Int) : diffL (stay (hasB (stepC c x).pages) c.pages) = victL c x :=
  up_ext (diffL_up _) (victL_up c x) (gone_mem (goodC_ok h) (goodC_nod h) x)
def okB (n : Int) (c : Ca) (x : Int) : Bool := goodC n c && inB x 0 (n - 1)
def victV (n : Int) (c : Ca) (x : Int) : List Int := if okB n c x then victL c x else []

/-- a Cache by value, laid into a block -/
theorem RCO.mc {base : Nat} {w W : World} {p k hd : Int} {pv mv : Value} {ps ms : List Int} {b : Nat} (h : RCO base w (.agg #[.int .i64 p, .int .i64 k, pv, mv, .int .i64 hd]) ⟨p, k, ps, ms, hd⟩) (hc : Chg No w W)
    (hb : Box W b (.int .i64 p) (.int .i64 k) pv mv (.int .i64 hd)) (hl : w.heap.size ≤ b) : MC base W b ⟨p, k, ps, ms, hd⟩ pv mv := by
  obtain ⟨pv', mv', e, h1, h2, h3⟩ := h
  simp only [Value.agg.injEq, Array.mk.injEq, List.cons.injEq, and_true, true_and] at e
  obtain ⟨rfl, rfl⟩ := e
  exact ⟨hb, h1.keep hc, h2.keep hc, h3, fun hq => by have := (h1.lt _ hq).2; omega, fun hq => by have := (h2.lt _ hq).2; omega⟩
end Go.Proofs.YtmfhlojmoehmiaaGreat

/- a step of a valid cache: plain -/
namespace Go.Proofs.YtmfhlojmoehmiaaGreat

theorem putL_new {l : List Int} {n : Int} (hn : n ∉ l) : (putL l n).length = l.length + 1 := by
  induction l with
  | nil => rfl
  | cons a l ih =>
    rw [List.mem_cons, not_or] at hn
    unfold putL
    split
    · rw [List.length_cons, ih hn.2, List.length_cons]
    · rw [if_neg (fun e => hn.1 e.symm)]; rfl
theorem foldl_put_new : ∀ (l acc : List Int), l.Nodup → (∀ x ∈ l, x ∉ acc) → (l.foldl putL acc).length = acc.length + l.length
  | [], acc, _, _ => rfl
  | a :: l, acc, hn, h => by
    rw [List.nodup_cons] at hn
    rw [List.foldl_cons, foldl_put_new l (putL acc a) hn.2 (fun x hx hm => by
      rcases putL_mem.1 hm with hm | rfl
      · exact h x (List.mem_cons_of_mem _ hx) hm
      · exact hn.1 hx), putL_new (h a (List.mem_cons_self ..)), List.length_cons]
    omega
theorem diffL_nod {l : List Int} (h : l.Nodup) : (diffL l).length = l.length := by
  have := foldl_put_new l [] h (fun x _ hm => by cases hm)
  simpa [diffL] using this
theorem goodC_iff (n : Int) (c : Ca) : goodC n c = true ↔ (1 ≤ n ∧ n ≤ 8) ∧ (1 ≤ c.pol ∧ c.pol ≤ 7) ∧ (1 ≤ c.size ∧ c.size ≤ 6) ∧ (c.pages.length : Int) ≤ c.size ∧ (∀ a ∈ c.pages, 0 ≤ a ∧ a ≤ n - 1) ∧ c.pages.Nodup ∧ marksB c = true ∧ handB c = true := by
  constructor
  · intro h
    have hn := goodC_nod h
    unfold goodC at h
    simp only [Bool.and_eq_true, inB_iff, decide_eq_true_eq, belowB, List.all_eq_true] at h
    obtain ⟨⟨⟨⟨⟨⟨⟨h1, h2⟩, h3⟩, h4⟩, h5⟩, h6⟩, h7⟩, h8⟩ := h
    exact ⟨h1, h2, h3, h4, h5, hn, h7, h8⟩
  · rintro ⟨h1, h2, h3, h4, h5, h6, h7, h8⟩
    unfold goodC
    simp only [Bool.and_eq_true, inB_iff, decide_eq_true_eq, belowB, List.all_eq_true]
    exact ⟨⟨⟨⟨⟨⟨⟨h1, h2⟩, h3⟩, h4⟩, h5⟩, diffL_nod h6⟩, h7⟩, h8⟩
/-- what a step holds: the item, and nothing but it and what was held -/
theorem step_mem {c : Ca} (x : Int) (hok : Ok c) : (∀ a ∈ (stepC c x).pages, a ∈ c.pages ∨ a = x) ∧ x ∈ (stepC c x).pages := by
  have hs := hok.size
  have hl := hok.len
  unfold stepC
  cases hh : hasB c.pages x
  · rw [if_neg (by simp)]
    unfold faultC
    by_cases h6 : c.pol = 6
    · rw [if_pos h6]
      unfold clockC
      by_cases hf : (c.pages.length : Int) < c.size
      · rw [if_pos hf]
        simp
      · rw [if_neg hf]
        have hv : (turned c).2 < c.pages.length := by
          have := victim_in hok hf
          unfold victim at this
          rwa [if_neg (by omega), if_neg (by omega), if_pos h6] at this
        refine ⟨fun a ha => ?_, ?_⟩
        · rcases List.mem_or_eq_of_mem_set ha with ha | rfl
          · exact .inl ha
          · exact .inr rfl
        · exact List.mem_iff_getElem.2 ⟨(turned c).2, by simpa using hv, by simp⟩
    · rw [if_neg h6]
      refine ⟨fun a ha => ?_, List.mem_cons_self ..⟩
      rcases List.mem_cons.1 ha with rfl | ha
      · exact .inr rfl
      · left
        split at ha
        · split at ha
          · cases ha
          · exact List.mem_of_mem_eraseIdx ha
        · exact ha
  · rw [if_pos rfl]
    rcases atI_spec c.pages x with ⟨_, k, hk, he⟩ | ⟨hn, _⟩
    · have hx : x ∈ c.pages := by simpa [hasB] using hh
      have hkx : c.pages.getD k 0 = x := by
        have e2 : atI c.pages x = (c.pages.idxOf x : Int) := by rw [atI, if_pos hx]
        have e3 : k = c.pages.idxOf x := by omega
        subst e3
        rw [List.getD_eq_getElem?_getD, List.getElem?_eq_getElem hk]
        simp
      rw [he, Int.toNat_natCast]
      unfold hitC
      split
      · refine ⟨fun a ha => ?_, by rw [hkx]; exact List.mem_cons_self ..⟩
        rcases List.mem_cons.1 ha with rfl | ha
        · exact .inr hkx
        · exact .inl (List.mem_of_mem_eraseIdx ha)
      · split
        · exact ⟨fun a ha => .inl ha, hx⟩
        · split <;> exact ⟨fun a ha => .inl ha, hx⟩
    · rw [hn] at hh; cases hh
theorem step_len {c : Ca} (x : Int) : (stepC c x).pages.length ≤ c.pages.length + 1 := by
  unfold stepC
  split
  · unfold hitC
    split
    · simp only [List.length_cons]
      have := List.length_eraseIdx_le c.pages (atI c.pages x).toNat
      omega
    · split
      · exact Nat.le_succ _
      · split <;> exact Nat.le_succ _
  · unfold faultC
    split
    · unfold clockC
      split
      · simp
      · simp
    · simp only [List.length_cons]
      split
      · split
        · simp
        · have := List.length_eraseIdx_le c.pages (victim c)
          omega
      · omega
theorem turn_01 (sz : Nat) (f : Nat) : ∀ (m : List Int) (h : Nat), (∀ x ∈ m, 0 ≤ x ∧ x ≤ 1) → ∀ x ∈ (turn sz f m h).1, 0 ≤ x ∧ x ≤ 1 := by
  induction f with
  | zero => intro m h hm; exact hm
  | succ f ih =>
    intro m h hm
    unfold turn
    split
    · exact ih _ _ (mem_set hm (by omega))
    · exact hm
theorem good_step {n x : Int} {c : Ca} (h : goodC n c = true) (hx : 0 ≤ x ∧ x ≤ n - 1) : goodC n (stepC c x) = true := by
  have hok := goodC_ok h
  have hok' := ok_step hok x
  rw [goodC_iff] at h ⊢
  obtain ⟨h1, h2, h3, h4, h5, h6, h7, h8⟩ := h
  refine ⟨h1, hok'.pol, hok'.size, hok'.len, fun a ha => ?_, nod_step h6 x, ?_, ?_⟩
  · rcases (step_mem x hok).1 a ha with ha | rfl
    · exact h5 a ha
    · exact hx
  · unfold marksB at h7
    unfold stepC
    cases hh : hasB c.pages x
    · rw [if_neg (by simp)]
      have hsz := hok.size
      by_cases h6' : c.pol = 6
      · rw [if_neg (by omega), if_pos h6'] at h7
        simp only [Bool.and_eq_true, decide_eq_true_eq, List.all_eq_true, inB_iff] at h7
        unfold faultC
        rw [if_pos h6']
        unfold marksB clockC
        rw [if_neg (by split <;> (simp only; omega))]
        split
        · simp only [Bool.and_eq_true, decide_eq_true_eq, List.all_eq_true, inB_iff]
          refine ⟨by simp [h7.1], fun m hm => ?_⟩
          rcases List.mem_append.1 hm with hm | hm
          · exact h7.2 m hm
          · simp at hm; omega
        · simp only [Bool.and_eq_true, decide_eq_true_eq, List.all_eq_true, inB_iff]
          have hh2 := hok.hand
          obtain ⟨t1, _, _⟩ := turn_props c.size.toNat (by omega) (c.marks.length + 1) c.marks c.hand.toNat (by omega)
          refine ⟨by rw [List.length_set, List.length_set]; unfold turned; rw [t1, h7.1], ?_⟩
          exact mem_set (turn_01 _ _ _ _ h7.2) (by omega)
      · unfold faultC
        rw [if_neg h6']
        by_cases h5' : c.pol = 5
        · rw [if_pos h5'] at h7
          simp only [Bool.and_eq_true, decide_eq_true_eq, List.all_eq_true, inB_iff] at h7
          unfold marksB
          rw [if_pos (by simpa using h5')]
          simp only [Bool.and_eq_true, decide_eq_true_eq, List.all_eq_true, inB_iff, if_pos h5']
          by_cases hf : (c.pages.length : Int) = c.size
          · simp only [if_pos hf]
            rw [if_neg (by omega)]
            have hv := victim_lt hok (by omega) h6'
            refine ⟨by rw [List.length_cons, List.length_cons, List.length_eraseIdx_of_lt hv, List.length_eraseIdx_of_lt (by omega), h7.1], fun m hm => ?_⟩
            rcases List.mem_cons.1 hm with rfl | hm
            · omega
            · exact h7.2 m (List.mem_of_mem_eraseIdx hm)
          · simp only [if_neg hf]
            refine ⟨by rw [List.length_cons, List.length_cons, h7.1], fun m hm => ?_⟩
            rcases List.mem_cons.1 hm with rfl | hm
            · omega
            · exact h7.2 m hm
        · rw [if_neg h5', if_neg h6'] at h7
          unfold marksB
          rw [if_neg (by simpa using h5'), if_neg (by simpa using h6')]
          simpa [if_neg h5'] using h7
    · rw [if_pos rfl]
      rcases atI_spec c.pages x with ⟨_, k, hk, he⟩ | ⟨hn, _⟩
      · rw [he, Int.toNat_natCast]
        unfold hitC
        by_cases h17 : c.pol = 1 ∨ c.pol = 7
        · rw [if_pos h17]
          rw [if_neg (by omega), if_neg (by omega)] at h7
          unfold marksB
          rw [if_neg (by simp only; omega), if_neg (by simp only; omega)]
          exact h7
        · rw [if_neg h17]
          by_cases h5' : c.pol = 5
          · rw [if_pos h5'] at h7 ⊢
            unfold marksB
            rw [if_pos (by simpa using h5')]
            simp only [Bool.and_eq_true, decide_eq_true_eq, List.all_eq_true, inB_iff] at h7 ⊢
            refine ⟨by rw [List.length_set, h7.1], mem_set h7.2 ?_⟩
            have := h7.2 _ (getD_mem (l := c.marks) (i := k) (by omega))
            omega
          · rw [if_neg h5'] at h7 ⊢
            by_cases h6' : c.pol = 6
            · rw [if_pos h6'] at h7 ⊢
              unfold marksB
              rw [if_neg (by simpa using h5'), if_pos (by simpa using h6')]
              simp only [Bool.and_eq_true, decide_eq_true_eq, List.all_eq_true, inB_iff] at h7 ⊢
              exact ⟨by rw [List.length_set, h7.1], mem_set h7.2 (by omega)⟩
            · rw [if_neg h6'] at h7 ⊢
              unfold marksB
              rw [if_neg h5', if_neg h6']
              exact h7
      · rw [hn] at hh; cases hh
  · unfold handB at h8
    unfold stepC
    cases hh : hasB c.pages x
    · rw [if_neg (by simp)]
      have hsz := hok.size
      by_cases h6' : c.pol = 6
      · unfold faultC
        rw [if_pos h6']
        unfold handB clockC
        by_cases hf : (c.pages.length : Int) < c.size
        · rw [if_pos hf]
          rw [if_neg (by omega)] at h8
          have h0 : c.hand = 0 := by simpa using h8
          split
          · rw [inB_iff]; simp only; omega
          · simpa using h0
        · rw [if_neg hf]
          rw [if_pos ⟨by simpa using h6', by simp; omega⟩, inB_iff]
          simp only
          have := Int.emod_nonneg ((turned c).2 + 1 : Int) (by omega : c.size ≠ 0)
          have := Int.emod_lt_of_pos ((turned c).2 + 1 : Int) (by omega : 0 < c.size)
          omega
      · unfold faultC
        rw [if_neg h6']
        rw [if_neg (fun e => h6' e.1)] at h8
        unfold handB
        rw [if_neg (fun e => h6' e.1)]
        exact h8
    · rw [if_pos rfl]
      rcases atI_spec c.pages x with ⟨_, k, hk, he⟩ | ⟨hn, _⟩
      · rw [he, Int.toNat_natCast]
        unfold hitC
        split
        · rename_i h17
          rw [if_neg (by omega)] at h8
          unfold handB
          rw [if_neg (by simp only; omega)]
          exact h8
        · split
          · exact h8
          · split
            · exact h8
            · exact h8
      · rw [hn] at hh; cases hh
/-- each page held is put out or held again -/
theorem vict_or {n x : Int} {c : Ca} (h : goodC n c = true) (a : Int) (ha : a ∈ c.pages) : hasB (victL c x) a = !hasB (stepC c x).pages a := by
  rw [← gone_vict h x]
  have : a ∈ diffL (stay (hasB (stepC c x).pages) c.pages) ↔ a ∉ (stepC c x).pages := by
    rw [diffL_mem, stay, List.mem_filter]
    simp [hasB, ha]
  cases h1 : hasB (stepC c x).pages a
  · have h2 : a ∉ (stepC c x).pages := by simpa [hasB] using h1
    have := this.2 h2
    simpa [hasB] using this
  · have h2 : a ∈ (stepC c x).pages := by simpa [hasB] using h1
    have : a ∉ diffL (stay (hasB (stepC c x).pages) c.pages) := fun hm => this.1 hm h2
    simpa [hasB] using this
theorem vict_hit {c : Ca} {x : Int} (h : hasB c.pages x = true) : victL c x = [] := by
  unfold victL
  rw [h]
  rfl
end Go.Proofs.YtmfhlojmoehmiaaGreat

/- CacheLRU and CacheMRU: what a smaller cache holds, a greater one holds: plain -/
namespace Go.Proofs.YtmfhlojmoehmiaaGreat

theorem erase_at (l : List Int) (x : Int) (h : x ∈ l) : l.getD (atI l x).toNat 0 = x ∧ l.eraseIdx (atI l x).toNat = l.erase x := by
  have e2 : atI l x = (l.idxOf x : Int) := by rw [atI, if_pos h]
  rw [e2, Int.toNat_natCast]
  have hk := List.idxOf_lt_length_of_mem h
  refine ⟨?_, ?_⟩
  · rw [List.getD_eq_getElem?_getD, List.getElem?_eq_getElem hk]
    simp
  · exact (List.erase_eq_eraseIdx_of_idxOf rfl).symm
theorem step_1 (c : Ca) (x : Int) (h : c.pol = 1) : (stepC c x).pages = if x ∈ c.pages then x :: c.pages.erase x else x :: (if (c.pages.length : Int) = c.size then c.pages.eraseIdx (c.pages.length - 1) else c.pages) := by
  unfold stepC
  by_cases hx : x ∈ c.pages
  · obtain ⟨e1, e2⟩ := erase_at c.pages x hx
    rw [if_pos (hasB_true.2 hx), if_pos hx]
    unfold hitC
    rw [if_pos (.inl h)]
    simp only [e1, e2]
  · rw [if_neg (by rw [hasB_true]; exact hx), if_neg hx]
    unfold faultC victim
    simp [h]
theorem step_7 (c : Ca) (x : Int) (h : c.pol = 7) : (stepC c x).pages = if x ∈ c.pages then x :: c.pages.erase x else x :: (if (c.pages.length : Int) = c.size then c.pages.eraseIdx 0 else c.pages) := by
  unfold stepC
  by_cases hx : x ∈ c.pages
  · obtain ⟨e1, e2⟩ := erase_at c.pages x hx
    rw [if_pos (hasB_true.2 hx), if_pos hx]
    unfold hitC
    rw [if_pos (.inr h)]
    simp only [e1, e2]
  · rw [if_neg (by rw [hasB_true]; exact hx), if_neg hx]
    unfold faultC victim
    simp [h]
theorem stepC_const (c : Ca) (x : Int) : (stepC c x).pol = c.pol ∧ (stepC c x).size = c.size := by
  unfold stepC
  split
  · unfold hitC
    split
    · exact ⟨rfl, rfl⟩
    · split
      · exact ⟨rfl, rfl⟩
      · split <;> exact ⟨rfl, rfl⟩
  · unfold faultC
    split
    · unfold clockC
      split <;> exact ⟨rfl, rfl⟩
    · exact ⟨rfl, rfl⟩

/-- a small and a great CacheLRU -/
structure Lru (K : Nat) (c C : Ca) : Prop where
  p1 : c.pol = 1
  p2 : C.pol = 1
  s1 : c.size = (K : Int)
  s2 : C.size = (K : Int) + 1
  pos : 1 ≤ K
  pre : c.pages = C.pages.take K
  len : C.pages.length ≤ K + 1
  nod : C.pages.Nodup
theorem Lru.step {K : Nat} {c C : Ca} (h : Lru K c C) (x : Int) : Lru K (stepC c x) (stepC C x) := by
  obtain ⟨p1, p2, s1, s2, pos, pre, len, nod⟩ := h
  have c1 := stepC_const c x
  have c2 := stepC_const C x
  have e1 := step_1 c x p1
  have e2 := step_1 C x p2
  have hn := nod_step nod x
  have hP := List.take_append_drop K C.pages
  have hkey : (stepC c x).pages = (stepC C x).pages.take K ∧ (stepC C x).pages.length ≤ K + 1 := by
    rw [e1, e2, pre]
    by_cases hx : x ∈ C.pages.take K
    · have hx2 : x ∈ C.pages := List.mem_of_mem_take hx
      have hp0 := List.length_pos_of_mem hx2
      rw [if_pos hx, if_pos hx2]
      have el : (C.pages.erase x).length = C.pages.length - 1 := List.length_erase_of_mem hx2
      refine ⟨?_, by rw [List.length_cons, el]; omega⟩
      have e3 : C.pages.erase x = (C.pages.take K).erase x ++ C.pages.drop K := by
        have := List.erase_append_left (C.pages.drop K) hx
        rwa [hP] at this
      have el2 : ((C.pages.take K).erase x).length = (C.pages.take K).length - 1 := List.length_erase_of_mem hx
      rw [List.length_take] at el2
      have hK : K = (K - 1) + 1 := by omega
      rw [hK, List.take_succ_cons]
      rw [show (K - 1 + 1) = K by omega]
      congr 1
      rw [e3]
      by_cases hl : K ≤ C.pages.length
      · rw [List.take_left' (by rw [el2]; omega)]
      · have : C.pages.drop K = [] := List.drop_eq_nil_of_le (by omega)
        rw [this, List.append_nil]
        exact (List.take_of_length_le (by rw [el2]; omega)).symm
    · rw [if_neg hx]
      by_cases hx2 : x ∈ C.pages
      · rw [if_pos hx2]
        have hd : x ∈ C.pages.drop K := by
          rw [← hP] at hx2
          exact (List.mem_append.1 hx2).resolve_left hx
        have hdl : 0 < (C.pages.drop K).length := List.length_pos_of_mem hd
        rw [List.length_drop] at hdl
        have hl : C.pages.length = K + 1 := by omega
        have e3 : C.pages.erase x = C.pages.take K ++ (C.pages.drop K).erase x := by
          have := List.erase_append_right (C.pages.drop K) hx
          rwa [hP] at this
        have hlt : (C.pages.take K).length = K := by rw [List.length_take]; omega
        refine ⟨?_, by rw [List.length_cons, List.length_erase_of_mem hx2]; omega⟩
        rw [if_pos (by rw [hlt, s1]), hlt, e3]
        have hK : K = (K - 1) + 1 := by omega
        rw [List.eraseIdx_eq_take_drop_succ]
        have hdr : (C.pages.take K).drop (K - 1 + 1) = [] := List.drop_eq_nil_of_le (by omega)
        rw [hdr, List.append_nil]
        conv => rhs; rw [hK, List.take_succ_cons]
        rw [← hK]
        congr 1
        rw [List.take_append_of_le_length (by omega)]
      · rw [if_neg hx2]
        by_cases hf : C.pages.length = K + 1
        · have hlt : (C.pages.take K).length = K := by rw [List.length_take]; omega
          rw [if_pos (by rw [hlt, s1]), if_pos (by rw [hf, s2]; rfl), hlt, hf]
          refine ⟨?_, by rw [List.length_cons, List.length_eraseIdx_of_lt (by omega)]; omega⟩
          have e4 : C.pages.eraseIdx (K + 1 - 1) = C.pages.take K := by
            rw [List.eraseIdx_eq_take_drop_succ]
            have : C.pages.drop (K + 1 - 1 + 1) = [] := List.drop_eq_nil_of_le (by omega)
            rw [this, List.append_nil]
            rfl
          have e5 : (C.pages.take K).eraseIdx (K - 1) = (C.pages.take K).take (K - 1) := by
            rw [List.eraseIdx_eq_take_drop_succ]
            have : (C.pages.take K).drop (K - 1 + 1) = [] := List.drop_eq_nil_of_le (by omega)
            rw [this, List.append_nil]
          rw [e4, e5]
          have hK : K = (K - 1) + 1 := by omega
          conv => rhs; rw [hK, List.take_succ_cons]
          rw [← hK]
        · have hg : ¬ (C.pages.length : Int) = C.size := by rw [s2]; omega
          rw [if_neg hg]
          refine ⟨?_, by rw [List.length_cons]; omega⟩
          by_cases hl : C.pages.length = K
          · have hlt : C.pages.take K = C.pages := List.take_of_length_le (by omega)
            rw [hlt, if_pos (by rw [hl, s1])]
            have e5 : C.pages.eraseIdx (C.pages.length - 1) = C.pages.take (K - 1) := by
              rw [List.eraseIdx_eq_take_drop_succ, hl]
              have : C.pages.drop (K - 1 + 1) = [] := List.drop_eq_nil_of_le (by omega)
              rw [this, List.append_nil]
            rw [e5]
            have hK : K = (K - 1) + 1 := by omega
            conv => rhs; rw [hK, List.take_succ_cons]
          · have hlt : C.pages.take K = C.pages := List.take_of_length_le (by omega)
            rw [hlt, if_neg (by rw [s1]; omega), List.take_of_length_le (by rw [List.length_cons]; omega)]
  exact ⟨c1.1.trans p1, c2.1.trans p2, c1.2.trans s1, c2.2.trans s2, pos, hkey.1, hkey.2, hn⟩

/-- a small and a great CacheMRU -/
structure Mru (K : Nat) (c C : Ca) : Prop where
  p1 : c.pol = 7
  p2 : C.pol = 7
  s1 : c.size = (K : Int)
  s2 : C.size = (K : Int) + 1
  pos : 1 ≤ K
  nod1 : c.pages.Nodup
  nod : C.pages.Nodup
  len : c.pages.length ≤ K
  two : (c.pages.length < K ∧ c.pages = C.pages) ∨ (c.pages.length = K ∧ c.pages.head? = C.pages.head? ∧ ∀ a ∈ c.pages, a ∈ C.pages)
theorem Mru.step {K : Nat} {c C : Ca} (h : Mru K c C) (x : Int) : Mru K (stepC c x) (stepC C x) := by
  obtain ⟨p1, p2, s1, s2, pos, nod1, nod, len, two⟩ := h
  have c1 := stepC_const c x
  have c2 := stepC_const C x
  have e1 := step_7 c x p1
  have e2 := step_7 C x p2
  have hn1 := nod_step nod1 x
  have hn := nod_step nod x
  have hkey : (stepC c x).pages.length ≤ K ∧ (((stepC c x).pages.length < K ∧ (stepC c x).pages = (stepC C x).pages) ∨ ((stepC c x).pages.length = K ∧ (stepC c x).pages.head? = (stepC C x).pages.head? ∧ ∀ a ∈ (stepC c x).pages, a ∈ (stepC C x).pages)) := by
    rw [e1, e2]
    rcases two with ⟨hl, he⟩ | ⟨hl, hh, hs⟩
    · rw [← he]
      have g1 : ¬ (c.pages.length : Int) = c.size := by rw [s1]; omega
      have g2 : ¬ (c.pages.length : Int) = C.size := by rw [s2]; omega
      rw [if_neg g1, if_neg g2]
      split
      · rename_i hx
        have := List.length_erase_of_mem hx
        have := List.length_pos_of_mem hx
        exact ⟨by rw [List.length_cons]; omega, .inl ⟨by rw [List.length_cons]; omega, rfl⟩⟩
      · refine ⟨by rw [List.length_cons]; omega, ?_⟩
        by_cases hk : c.pages.length + 1 < K
        · exact .inl ⟨by rw [List.length_cons]; omega, rfl⟩
        · exact .inr ⟨by rw [List.length_cons]; omega, rfl, fun a ha => ha⟩
    · by_cases hx : x ∈ c.pages
      · have hx2 := hs x hx
        rw [if_pos hx, if_pos hx2]
        have := List.length_erase_of_mem hx
        have := List.length_pos_of_mem hx
        refine ⟨by rw [List.length_cons]; omega, .inr ⟨by rw [List.length_cons]; omega, rfl, fun a ha => ?_⟩⟩
        rcases List.mem_cons.1 ha with rfl | ha
        · exact List.mem_cons_self ..
        · rw [nod1.mem_erase_iff] at ha
          exact List.mem_cons_of_mem _ (nod.mem_erase_iff.2 ⟨ha.1, hs a ha.2⟩)
      · rw [if_neg hx, if_pos (by rw [hl, s1])]
        obtain ⟨y, t, ht⟩ : ∃ y t, c.pages = y :: t := by
          rcases hc : c.pages with _ | ⟨y, t⟩
          · rw [hc] at hl; simp at hl; omega
          · exact ⟨y, t, rfl⟩
        rw [ht] at hl hh hs nod1 hx ⊢
        rw [List.nodup_cons] at nod1
        obtain ⟨g, hg⟩ : ∃ g, C.pages = y :: g := by
          rcases hc : C.pages with _ | ⟨y', g⟩
          · rw [hc] at hh; simp at hh
          · rw [hc] at hh; simp at hh; exact ⟨g, by rw [hh]⟩
        rw [hg] at hs nod ⊢
        rw [List.nodup_cons] at nod
        rw [List.eraseIdx_cons_zero]
        have htg : ∀ a ∈ t, a ∈ g := fun a ha => by
          rcases List.mem_cons.1 (hs a (List.mem_cons_of_mem _ ha)) with rfl | h
          · exact absurd ha nod1.1
          · exact h
        rw [List.length_cons] at hl
        refine ⟨by rw [List.length_cons]; omega, .inr ⟨by rw [List.length_cons]; omega, ?_, fun a ha => ?_⟩⟩
        · split <;> rfl
        · have hx0 : ¬ a = x → a ∈ t := fun h => (List.mem_cons.1 ha).resolve_left h
          by_cases hax : a = x
          · subst hax
            split <;> exact List.mem_cons_self ..
          · have hat := hx0 hax
            have hag := htg a hat
            split
            · refine List.mem_cons_of_mem _ ?_
              have : (y :: g).Nodup := List.nodup_cons.2 nod
              exact this.mem_erase_iff.2 ⟨hax, List.mem_cons_of_mem _ hag⟩
            · split
              · rw [List.eraseIdx_cons_zero]; exact List.mem_cons_of_mem _ hag
              · exact List.mem_cons_of_mem _ (List.mem_cons_of_mem _ hag)
  exact ⟨c1.1.trans p1, c2.1.trans p2, c1.2.trans s1, c2.2.trans s2, pos, hn1, hn, hkey.1, hkey.2⟩

theorem lru_run {K : Nat} (l : List Int) : ∀ {c C : Ca}, Lru K c C → Lru K (runC c l) (runC C l) := by
  induction l with
  | nil => exact fun h => h
  | cons x l ih => exact fun h => ih (h.step x)
theorem mru_run {K : Nat} (l : List Int) : ∀ {c C : Ca}, Mru K c C → Mru K (runC c l) (runC C l) := by
  induction l with
  | nil => exact fun h => h
  | cons x l ih => exact fun h => ih (h.step x)
/-- inclusion, with both policies -/
theorem stack_incl {p k : Int} (hp : p = 1 ∨ p = 7) (hk : 1 ≤ k) (l : List Int) : ∀ a ∈ (runC (newC p k) l).pages, a ∈ (runC (newC p (k + 1)) l).pages := by
  obtain ⟨K, rfl⟩ := Int.eq_ofNat_of_zero_le (by omega : 0 ≤ k)
  rcases hp with rfl | rfl
  · have h0 : Lru K (newC 1 (K : Int)) (newC 1 ((K : Int) + 1)) := ⟨rfl, rfl, rfl, rfl, by omega, by simp [newC], by simp [newC], by simp [newC]⟩
    intro a ha
    rw [(lru_run l h0).pre] at ha
    exact List.mem_of_mem_take ha
  · have h0 : Mru K (newC 7 (K : Int)) (newC 7 ((K : Int) + 1)) := ⟨rfl, rfl, rfl, rfl, by omega, by simp [newC], by simp [newC], by simp [newC], .inl ⟨by simp [newC]; omega, rfl⟩⟩
    intro a ha
    rcases (mru_run l h0).two with ⟨_, he⟩ | ⟨_, _, hs⟩
    · rwa [he] at ha
    · exact hs a ha
theorem places_fewer {p k : Int} (hp : p = 1 ∨ p = 7) (hk : 1 ≤ k) (l : List Int) : ∀ j, (placesTo (newC p (k + 1)) l j).length ≤ (placesTo (newC p k) l j).length := by
  intro j
  induction j with
  | zero => exact Nat.le_refl _
  | succ j ih =>
    unfold placesTo
    by_cases h1 : hasB (runC (newC p k) (l.take j)).pages (l.getD j 0) = true
    · have h2 : hasB (runC (newC p (k + 1)) (l.take j)).pages (l.getD j 0) = true := hasB_true.2 (stack_incl hp hk _ _ (hasB_true.1 h1))
      rw [if_pos h1, if_pos h2]
      exact ih
    · rw [if_neg h1]
      split
      · rw [List.length_append]; omega
      · rw [List.length_append, List.length_append]; simp only [List.length_cons, List.length_nil]; omega
end Go.Proofs.YtmfhlojmoehmiaaGreat

/- plain: sequences of items in order, their weights and the sum of their faults -/
namespace Go.Proofs.YtmfhlojmoehmiaaGreat

/-- the faults of a list of requests behind a cache -/
def nfC (c : Ca) : List Int → Nat
  | [] => 0
  | x :: l => (if hasB c.pages x then 0 else 1) + nfC (stepC c x) l
theorem placesTo_cons (c : Ca) (x : Int) (l : List Int) (k : Nat) : (placesTo c (x :: l) (k + 1)).length = (if hasB c.pages x then 0 else 1) + (placesTo (stepC c x) l k).length := by
  induction k with
  | zero =>
    show (if hasB c.pages x then [] else [] ++ [((0 : Nat) : Int)] : List Int).length = _
    cases hasB c.pages x <;> rfl
  | succ k ih =>
    have e : placesTo c (x :: l) (k + 1 + 1) = if hasB (runC (stepC c x) (l.take k)).pages (l.getD k 0) then placesTo c (x :: l) (k + 1) else placesTo c (x :: l) (k + 1) ++ [((k + 1 : Nat) : Int)] := rfl
    have e2 : placesTo (stepC c x) l (k + 1) = if hasB (runC (stepC c x) (l.take k)).pages (l.getD k 0) then placesTo (stepC c x) l k else placesTo (stepC c x) l k ++ [((k : Nat) : Int)] := rfl
    rw [e, e2]
    cases hasB (runC (stepC c x) (l.take k)).pages (l.getD k 0)
    · simp only [Bool.false_eq_true, if_false, List.length_append, List.length_singleton, ih]; omega
    · simp only [if_true, ih]
theorem places_nf (l : List Int) : ∀ c : Ca, (places c l).length = nfC c l := by
  induction l with
  | nil => exact fun _ => rfl
  | cons x l ih =>
    intro c
    show (placesTo c (x :: l) (l.length + 1)).length = _
    rw [placesTo_cons]
    show _ + (places (stepC c x) l).length = _
    rw [ih]
    rfl
theorem nfC_le (l : List Int) : ∀ c : Ca, nfC c l ≤ l.length := by
  induction l with
  | nil => exact fun _ => Nat.le_refl _
  | cons x l ih =>
    intro c
    have := ih (stepC c x)
    show (if hasB c.pages x then 0 else 1) + nfC (stepC c x) l ≤ l.length + 1
    split <;> omega
/-- a sum over the first numbers -/
def sumTo (g : Nat → Int) : Nat → Int
  | 0 => 0
  | m + 1 => sumTo g m + g m
theorem sumTo_congr {g h : Nat → Int} {m : Nat} (e : ∀ i, i < m → g i = h i) : sumTo g m = sumTo h m := by
  induction m with
  | zero => rfl
  | succ m ih =>
    rw [sumTo, sumTo, ih (fun i hi => e i (by omega)), e m (by omega)]
theorem sumTo_add (g : Nat → Int) (a b : Nat) : sumTo g (a + b) = sumTo g a + sumTo (fun j => g (a + j)) b := by
  induction b with
  | zero => simp [sumTo]
  | succ b ih =>
    rw [← Nat.add_assoc, sumTo, ih, sumTo, Int.add_assoc]
theorem sumTo_mul (g : Nat → Int) (a m : Nat) : sumTo g (a * m) = sumTo (fun i => sumTo (fun j => g (i * m + j)) m) a := by
  induction a with
  | zero => simp [sumTo]
  | succ a ih =>
    rw [Nat.succ_mul, sumTo_add, ih, sumTo]
theorem sumTo_scale (g : Nat → Int) (k : Int) (m : Nat) : sumTo (fun i => k * g i) m = k * sumTo g m := by
  induction m with
  | zero => simp [sumTo]
  | succ m ih => rw [sumTo, sumTo, ih, Int.mul_add]
theorem sumTo_both (g h : Nat → Int) (m : Nat) : sumTo (fun i => g i + h i) m = sumTo g m + sumTo h m := by
  induction m with
  | zero => rfl
  | succ m ih => rw [sumTo, sumTo, sumTo, ih]; omega
theorem sumTo_bound {g : Nat → Int} {B : Int} {m : Nat} (h : ∀ i, i < m → 0 ≤ g i ∧ g i ≤ B) : ∀ j, j ≤ m → 0 ≤ sumTo g j ∧ sumTo g j ≤ (j : Int) * B := by
  intro j
  induction j with
  | zero => intro _; simp [sumTo]
  | succ j ih =>
    intro hj
    have h1 := ih (by omega)
    have h2 := h j (by omega)
    rw [sumTo, show ((j + 1 : Nat) : Int) = (j : Int) + 1 from rfl, Int.add_mul]
    omega
/-- the sequence with a number, the first item first -/
def digs (n : Nat) : Nat → Nat → List Int
  | 0, _ => []
  | L + 1, t => ((t / n ^ L % n : Nat) : Int) :: digs n L t
theorem digs_len (n L t : Nat) : (digs n L t).length = L := by
  induction L with
  | zero => rfl
  | succ L ih => simp [digs, ih]
theorem digs_at (n L t : Nat) : ∀ j, j < L → (digs n L t).getD j 0 = ((t / n ^ (L - 1 - j) % n : Nat) : Int) := by
  induction L with
  | zero => exact fun j hj => absurd hj (Nat.not_lt_zero _)
  | succ L ih =>
    intro j hj
    cases j with
    | zero => rfl
    | succ j =>
      show (digs n L t).getD j 0 = _
      rw [ih j (by omega), show L + 1 - 1 - (j + 1) = L - 1 - j by omega]
theorem digs_zero (n L : Nat) : digs n L 0 = List.replicate L 0 := by
  induction L with
  | zero => rfl
  | succ L ih => rw [digs, ih, Nat.zero_div, Nat.zero_mod]; rfl
theorem digs_below {n : Nat} (hn : 0 < n) (L t : Nat) : ∀ x ∈ digs n L t, 0 ≤ x ∧ x < (n : Int) := by
  induction L with
  | zero => exact fun x hx => absurd hx (List.not_mem_nil)
  | succ L ih =>
    intro x hx
    rcases List.mem_cons.1 hx with rfl | hx
    · have := Nat.mod_lt (t / n ^ L) hn
      omega
    · exact ih x hx
theorem digs_split {n : Nat} (hn : 0 < n) (L K a b : Nat) (hk : L ≤ K) : digs n L (a * n ^ K + b) = digs n L b := by
  induction L with
  | zero => rfl
  | succ L ih =>
    rw [digs, digs, ih (by omega)]
    have e : n ^ K = n ^ L * n ^ (K - L) := by rw [← Nat.pow_add]; congr 1; omega
    have e2 : n ^ (K - L) = n * n ^ (K - L - 1) := by
      rw [← Nat.pow_succ']; congr 1; omega
    have h1 : (a * n ^ K + b) / n ^ L = a * n ^ (K - L) + b / n ^ L := by
      rw [e, show a * (n ^ L * n ^ (K - L)) + b = b + n ^ L * (a * n ^ (K - L)) by rw [Nat.add_comm, Nat.mul_left_comm], Nat.add_mul_div_left _ _ (Nat.pow_pos hn), Nat.add_comm]
    rw [h1, e2, show a * (n * n ^ (K - L - 1)) + b / n ^ L = b / n ^ L + n * (a * n ^ (K - L - 1)) by rw [Nat.add_comm, Nat.mul_left_comm], Nat.add_mul_mod_self_left]
theorem digs_first {n : Nat} (hn : 0 < n) (L a b : Nat) (ha : a < n) (hb : b < n ^ L) : digs n (L + 1) (a * n ^ L + b) = (a : Int) :: digs n L b := by
  rw [digs, digs_split hn L L a b (Nat.le_refl _)]
  have h1 : (a * n ^ L + b) / n ^ L = a := by
    rw [show a * n ^ L + b = b + n ^ L * a by rw [Nat.add_comm, Nat.mul_comm], Nat.add_mul_div_left _ _ (Nat.pow_pos hn), Nat.div_eq_of_lt hb, Nat.zero_add]
  rw [h1, Nat.mod_eq_of_lt ha]
/-- the product of the weights of a sequence -/
def wt (ws s : List Int) : Int := s.foldl (fun p x => p * ws.getD x.toNat 0) 1
theorem wt_from (ws s : List Int) : ∀ p : Int, s.foldl (fun p x => p * ws.getD x.toNat 0) p = p * wt ws s := by
  unfold wt
  induction s with
  | nil => intro p; simp
  | cons x s ih =>
    intro p
    rw [List.foldl_cons, List.foldl_cons, ih, ih (1 * _), Int.one_mul, Int.mul_assoc]
theorem wt_cons (ws : List Int) (x : Int) (s : List Int) : wt ws (x :: s) = ws.getD x.toNat 0 * wt ws s := by
  show s.foldl _ (1 * _) = _
  rw [wt_from, Int.one_mul]
theorem wt_snoc (ws s : List Int) (j : Nat) (hj : j < s.length) : wt ws (s.take (j + 1)) = wt ws (s.take j) * ws.getD (s.getD j 0).toNat 0 := by
  have e : s.getD j 0 = s[j] := by rw [List.getD_eq_getElem?_getD, List.getElem?_eq_getElem hj]; rfl
  rw [take_snoc s j hj, wt, List.foldl_append, e]
  rfl
theorem wt_bound {ws : List Int} (h : ∀ x ∈ ws, 0 ≤ x ∧ x ≤ 9) (s : List Int) : 0 ≤ wt ws s ∧ wt ws s ≤ 9 ^ s.length := by
  induction s with
  | nil => exact ⟨(by decide : (0 : Int) ≤ 1), (by decide : (1 : Int) ≤ 9 ^ 0)⟩
  | cons x s ih =>
    have hx : 0 ≤ ws.getD x.toNat 0 ∧ ws.getD x.toNat 0 ≤ 9 := by
      by_cases e : x.toNat < ws.length
      · exact h _ (getD_mem e)
      · rw [List.getD_eq_getElem?_getD, List.getElem?_eq_none (by omega)]; exact ⟨by decide, by decide⟩
    rw [wt_cons, List.length_cons, Int.pow_succ, Int.mul_comm (9 ^ s.length)]
    exact ⟨Int.mul_nonneg hx.1 ih.1, Int.le_trans (Int.mul_le_mul_of_nonneg_left ih.2 hx.1) (Int.mul_le_mul_of_nonneg_right hx.2 (by exact Int.le_trans ih.1 ih.2))⟩
/-- what a sequence adds -/
def gAdd (ws : List Int) (n L : Nat) (c : Ca) (t : Nat) : Int := wt ws (digs n L t) * (nfC c (digs n L t) : Int)
theorem sum_wt (ws : List Int) (hn : 0 < ws.length) (L : Nat) : sumTo (fun t => wt ws (digs ws.length L t)) (ws.length ^ L) = sumTo (fun a => ws.getD a 0) ws.length ^ L := by
  induction L with
  | zero => show (0 : Int) + 1 = _; rw [Int.pow_zero]; rfl
  | succ L ih =>
    rw [Nat.pow_succ', sumTo_mul, Int.pow_succ, Int.mul_comm, ← ih]
    rw [Int.mul_comm, ← sumTo_scale]
    refine sumTo_congr (fun a ha => ?_)
    rw [Int.mul_comm, ← sumTo_scale]
    refine sumTo_congr (fun b hb => ?_)
    rw [digs_first hn L a b ha hb, wt_cons]
    rfl
/-- the sum of the faults of all sequences, as the reference has it -/
def drawnC (ws : List Int) (W : Int) : Nat → Ca → Int
  | 0, _ => 0
  | L + 1, c => sumTo (fun a => ws.getD a 0 * (drawnC ws W L (stepC c (a : Int)) + if hasB c.pages (a : Int) then 0 else W ^ L)) ws.length
theorem sum_drawn (ws : List Int) (hn : 0 < ws.length) (L : Nat) : ∀ c : Ca, sumTo (gAdd ws ws.length L c) (ws.length ^ L) = drawnC ws (sumTo (fun a => ws.getD a 0) ws.length) L c := by
  induction L with
  | zero =>
    intro c
    show (0 : Int) + wt ws [] * ((0 : Nat) : Int) = 0
    simp
  | succ L ih =>
    intro c
    rw [Nat.pow_succ', sumTo_mul, drawnC]
    refine sumTo_congr (fun a ha => ?_)
    have e : sumTo (fun j => gAdd ws ws.length (L + 1) c (a * ws.length ^ L + j)) (ws.length ^ L) = sumTo (fun j => ws.getD a 0 * (gAdd ws ws.length L (stepC c (a : Int)) j + (if hasB c.pages (a : Int) then 0 else 1) * wt ws (digs ws.length L j))) (ws.length ^ L) := by
      refine sumTo_congr (fun b hb => ?_)
      unfold gAdd
      rw [digs_first hn L a b ha hb, wt_cons]
      show ws.getD a 0 * wt ws (digs ws.length L b) * (((if hasB c.pages (a : Int) then 0 else 1) + nfC (stepC c (a : Int)) (digs ws.length L b) : Nat) : Int) = _
      rw [Int.mul_assoc]
      congr 1
      split
      · simp
      · rw [Int.natCast_add, Int.mul_add, Int.one_mul]
        simp
        omega
    rw [e, sumTo_scale, sumTo_both, sumTo_scale, sum_wt ws hn L, ih]
    congr 2
    split
    · simp
    · simp
def bB : Nat → Int
  | 0 => 0
  | L + 1 => 72 * (bB L + 10000)
theorem bB_nonneg (L : Nat) : 0 ≤ bB L := by
  induction L with
  | zero => exact Int.le_refl _
  | succ L ih => rw [bB]; omega
/-- a part of a sum of the reference -/
def dPart (ws : List Int) (W : Int) (L : Nat) (c : Ca) (a : Nat) : Int := drawnC ws W L (stepC c (a : Int)) + if hasB c.pages (a : Int) then 0 else W ^ L
theorem dPart_bound {ws : List Int} {W : Int} {L : Nat} (c : Ca) (a : Nat) (hW : 0 ≤ W ^ L ∧ W ^ L ≤ 10000) (hd : ∀ c, 0 ≤ drawnC ws W L c ∧ drawnC ws W L c ≤ bB L) : 0 ≤ dPart ws W L c a ∧ dPart ws W L c a ≤ bB L + 10000 := by
  have hi := hd (stepC c (a : Int))
  unfold dPart
  split <;> omega
theorem dPart_sum {ws : List Int} (hl : ws.length ≤ 8) (h : ∀ x ∈ ws, 0 ≤ x ∧ x ≤ 9) {W : Int} {L : Nat} (c : Ca) (hW : 0 ≤ W ^ L ∧ W ^ L ≤ 10000) (hd : ∀ c, 0 ≤ drawnC ws W L c ∧ drawnC ws W L c ≤ bB L) : ∀ m, m ≤ ws.length → 0 ≤ sumTo (fun a => ws.getD a 0 * dPart ws W L c a) m ∧ sumTo (fun a => ws.getD a 0 * dPart ws W L c a) m ≤ bB (L + 1) := by
  intro m hm
  have hb := sumTo_bound (g := fun a => ws.getD a 0 * dPart ws W L c a) (B := 9 * (bB L + 10000)) (m := ws.length) (fun a ha => ?_) m hm
  · refine ⟨hb.1, Int.le_trans hb.2 ?_⟩
    have h0 := bB_nonneg L
    have : (m : Int) ≤ 8 := by omega
    refine Int.le_trans (Int.mul_le_mul_of_nonneg_right this (by omega)) ?_
    rw [bB]
    omega
  · have hx := h _ (getD_mem (l := ws) ha)
    have hy := dPart_bound (ws := ws) c a hW hd
    exact ⟨Int.mul_nonneg hx.1 hy.1, Int.le_trans (Int.mul_le_mul_of_nonneg_left hy.2 hx.1) (Int.mul_le_mul_of_nonneg_right hx.2 (by omega))⟩
theorem drawnC_succ (ws : List Int) (W : Int) (L : Nat) (c : Ca) : drawnC ws W (L + 1) c = sumTo (fun a => ws.getD a 0 * dPart ws W L c a) ws.length := rfl
theorem drawnC_bound {ws : List Int} (hl : ws.length ≤ 8) (h : ∀ x ∈ ws, 0 ≤ x ∧ x ≤ 9) {W : Int} (hW : ∀ L, L ≤ 4 → 0 ≤ W ^ L ∧ W ^ L ≤ 10000) (L : Nat) : L ≤ 4 → ∀ c : Ca, 0 ≤ drawnC ws W L c ∧ drawnC ws W L c ≤ bB L := by
  induction L with
  | zero => exact fun _ c => ⟨Int.le_refl _, Int.le_refl _⟩
  | succ L ih =>
    intro hL c
    rw [drawnC_succ]
    exact dPart_sum hl h c (hW L (by omega)) (ih (by omega)) ws.length (Nat.le_refl _)
theorem bB_le {L : Nat} (h : L ≤ 4) : bB L ≤ 300000000000 := by
  match L, h with
  | 0, _ => decide
  | 1, _ => decide
  | 2, _ => decide
  | 3, _ => decide
  | 4, _ => decide
end Go.Proofs.YtmfhlojmoehmiaaGreat

/- what each cache costs against the fewest faults: phases (plain) -/
namespace Go.Proofs.YtmfhlojmoehmiaaGreat

/-- a cache's own run is one of those that the fewest faults are asked of -/
theorem run_sim (l : List Int) : ∀ c : Ca, Ok c → Sim c.size.toNat l (· ∈ c.pages) (nfC c l) := by
  induction l with
  | nil => intro c _; rfl
  | cons x l ih =>
    intro c hok
    have hok' := ok_step hok x
    obtain ⟨h1, h2⟩ := step_mem x hok
    have hsz := (stepC_const c x).2
    have h3 := hok'.len
    have h4 := hok'.size
    have ih' := ih (stepC c x) hok'
    rw [hsz] at ih'
    refine ⟨(· ∈ (stepC c x).pages), h2, h1, ⟨(stepC c x).pages, by rw [← hsz]; omega, fun y hy => hy⟩, _, ih', ?_⟩
    by_cases hx : x ∈ c.pages
    · exact .inl ⟨hx, by show (if hasB c.pages x then 0 else 1) + _ = _; rw [if_pos (hasB_true.2 hx)]; omega⟩
    · exact .inr ⟨hx, by show (if hasB c.pages x then 0 else 1) + _ = _; rw [if_neg (by rw [hasB_true]; exact hx)]; omega⟩
theorem fewest_run {p k : Int} (hok : Ok (newC p k)) {l : List Int} {f : Nat} (h : Fewest k.toNat l f) : f ≤ nfC (newC p k) l := by
  refine h.2 _ ?_
  have := run_sim l (newC p k) hok
  have e : (fun _ : Int => False) = (· ∈ (newC p k).pages) := by funext x; simp [newC]
  rw [e]; exact this

/-- how many phases more begin -/
def cntP (k : Nat) : List Int → List Int → Nat
  | _, [] => 0
  | D, r :: l => if r ∈ D then cntP k D l else if D.length < k then cntP k (r :: D) l else cntP k [r] l + 1

theorem filter_parts (p : Int → Bool) (l : List Int) : (l.filter p).length + (l.filter fun x => !p x).length = l.length := by
  induction l with
  | nil => rfl
  | cons x l ih => cases h : p x <;> simp [h] <;> omega

/-- no sequence of caches of h pages does with less -/
theorem opt_low {h k : Nat} (hk0 : 0 < k) (hhk : h ≤ k) (l : List Int) : ∀ (S S0 : Int → Prop) (D : List Int) (e c : Nat), Fits h S0 → D.Nodup → D.length ≤ k → (∀ x, S x → S0 x ∨ x ∈ D) →
    (∀ E : List Int, E.Nodup → (∀ x ∈ E, x ∈ D ∧ ¬ S0 x) → E.length ≤ e) → Sim h l S c → (k - h + 1) * cntP k D l ≤ e + c := by
  induction l with
  | nil => intro S S0 D e c _ _ _ _ _ _; show (k - h + 1) * 0 ≤ _; omega
  | cons r l ih =>
    intro S S0 D e c hfit hn hk hS hE hs
    obtain ⟨S1, s1, s2, s3, c1, s4, s5⟩ := hs
    unfold cntP
    by_cases hr : r ∈ D
    · rw [if_pos hr]
      have := ih S1 S0 D e c1 hfit hn hk (fun x hx => by
        rcases s2 x hx with h | h
        · exact hS x h
        · exact .inr (h ▸ hr)) hE s4
      rcases s5 with ⟨_, h⟩ | ⟨_, h⟩ <;> omega
    · rw [if_neg hr]
      have hn' : (r :: D).Nodup := List.nodup_cons.2 ⟨hr, hn⟩
      have hE' : ∀ E : List Int, E.Nodup → (∀ x ∈ E, x ∈ r :: D ∧ ¬ S0 x) → E.length + c1 ≤ e + c := fun E hEn hEm => by
        rcases s5 with ⟨hsr, hc⟩ | ⟨hsr, hc⟩
        · have hr0 : S0 r := (hS r hsr).elim id (fun h => absurd h hr)
          have := hE E hEn (fun x hx => by
            obtain ⟨h1, h2⟩ := hEm x hx
            rcases List.mem_cons.1 h1 with rfl | h1
            · exact absurd hr0 h2
            · exact ⟨h1, h2⟩)
          omega
        · have h1 := hE (E.erase r) (hEn.erase r) (fun x hx => by
            have hx' := (List.Nodup.mem_erase_iff hEn).1 hx
            obtain ⟨h1, h2⟩ := hEm x hx'.2
            rcases List.mem_cons.1 h1 with rfl | h1
            · exact absurd rfl hx'.1
            · exact ⟨h1, h2⟩)
          have h2 : E.length ≤ (E.erase r).length + 1 := by rw [List.length_erase]; split <;> omega
          omega
      by_cases hlt : D.length < k
      · rw [if_pos hlt]
        have := ih S1 S0 (r :: D) (e + c - c1) c1 hfit hn' (by simp only [List.length_cons]; omega) (fun x hx => by
          rcases s2 x hx with h | h
          · exact (hS x h).imp id (List.mem_cons_of_mem _)
          · exact .inr (by rw [h]; exact List.mem_cons_self ..)) (fun E hEn hEm => by have := hE' E hEn hEm; omega) s4
        have hc : c1 ≤ e + c := by rcases s5 with ⟨_, h⟩ | ⟨_, h⟩ <;> omega
        omega
      · rw [if_neg hlt]
        have h1 := ih S1 S1 [r] 0 c1 s3 (by simp) (by simp; omega) (fun x hx => .inl hx) (fun E hEn hEm => by
          cases E with
          | nil => exact Nat.le_refl _
          | cons y E =>
            obtain ⟨h1, h2⟩ := hEm y (List.mem_cons_self ..)
            rw [List.mem_singleton] at h1
            exact absurd (h1 ▸ s1) h2) s4
        have h2 : k + 1 ≤ h + ((r :: D).filter fun x => !(@decide (S0 x) (Classical.propDecidable _))).length := by
          have hp := filter_parts (fun x => @decide (S0 x) (Classical.propDecidable _)) (r :: D)
          obtain ⟨L, hL1, hL2⟩ := hfit
          have := nodup_le (l := (r :: D).filter fun x => @decide (S0 x) (Classical.propDecidable _)) (m := L) (hn'.filter _) (fun x hx => hL2 x (by
            have := (List.mem_filter.1 hx).2
            simpa using this))
          simp only [List.length_cons] at hp
          omega
        have h3 := hE' ((r :: D).filter fun x => !(@decide (S0 x) (Classical.propDecidable _))) (hn'.filter _) (fun x hx => by
          obtain ⟨h1, h2⟩ := List.mem_filter.1 hx
          simp only [Bool.not_eq_true', decide_eq_false_iff_not] at h2
          exact ⟨h1, h2⟩)
        have h4 : (k - h + 1) * (cntP k [r] l + 1) = (k - h + 1) * cntP k [r] l + (k - h + 1) := by rw [Nat.mul_add, Nat.mul_one]
        omega

theorem opt_phases {h k : Nat} (hk0 : 0 < k) (hhk : h ≤ k) {l : List Int} {f : Nat} (hf : Fewest h l f) : (k - h + 1) * cntP k [] l ≤ f := by
  have := opt_low hk0 hhk l (fun _ => False) (fun _ => False) [] 0 f ⟨[], by simp, fun _ h => h.elim⟩ (by simp) (by simp) (fun _ h => h.elim) (fun E _ hE => by
    cases E with
    | nil => exact Nat.le_refl _
    | cons y E => have := (hE y (List.mem_cons_self ..)).1; cases this) hf.1
  omega
theorem opt_first {k : Nat} (hk : 0 < k) {r : Int} {l : List Int} {f : Nat} (hf : Fewest k (r :: l) f) : cntP k [] (r :: l) + 1 ≤ f := by
  obtain ⟨⟨S1, s1, s2, s3, c1, s4, s5⟩, _⟩ := hf
  have h1 := opt_low hk (Nat.le_refl k) l S1 S1 [r] 0 c1 s3 (by simp) (by simp; omega) (fun x hx => .inl hx) (fun E hEn hEm => by
    cases E with
    | nil => exact Nat.le_refl _
    | cons y E =>
      obtain ⟨h1, h2⟩ := hEm y (List.mem_cons_self ..)
      rw [List.mem_singleton] at h1
      exact absurd (h1 ▸ s1) h2) s4
  have e : cntP k [] (r :: l) = cntP k [r] l := by
    show (if r ∈ [] then _ else if ([] : List Int).length < k then _ else _) = _
    rw [if_neg (by simp), if_pos (by simpa using hk)]
  rw [e]
  rcases s5 with ⟨h, _⟩ | ⟨_, h⟩
  · exact h.elim
  · rw [Nat.sub_self, Nat.zero_add, Nat.one_mul] at h1; omega

/-- a cache that faults once at most for each page of a phase: 'P cache pages faulted' -/
structure Cons (k : Nat) (P : Ca → List Int → List Int → Prop) : Prop where
  old : ∀ c D F x, P c D F → x ∈ D → D.length ≤ k → D.Nodup → F.Nodup → (∀ y ∈ F, y ∈ D) → (x ∈ c.pages → P (stepC c x) D F) ∧ (x ∉ c.pages → x ∉ F ∧ P (stepC c x) D (x :: F))
  new : ∀ c D F x, P c D F → x ∉ D → D.length < k → D.Nodup → F.Nodup → (∀ y ∈ F, y ∈ D) → (x ∈ c.pages → P (stepC c x) (x :: D) F) ∧ (x ∉ c.pages → P (stepC c x) (x :: D) (x :: F))
  turn : ∀ c D F x, P c D F → x ∉ D → D.length = k → D.Nodup → F.Nodup → (∀ y ∈ F, y ∈ D) → (x ∈ c.pages → P (stepC c x) [x] []) ∧ (x ∉ c.pages → P (stepC c x) [x] [x])

theorem Cons.low {k : Nat} (hk : 0 < k) {P : Ca → List Int → List Int → Prop} (hP : Cons k P) (l : List Int) : ∀ c D F, P c D F → D.length ≤ k → D.Nodup → F.Nodup → (∀ y ∈ F, y ∈ D) →
    F.length + nfC c l ≤ k * cntP k D l + k := by
  induction l with
  | nil =>
    intro c D F _ hk hD hF hFD
    have := nodup_le hF hFD
    show _ + 0 ≤ k * 0 + k
    omega
  | cons x l ih =>
    intro c D F h hDk hD hF hFD
    have e : nfC c (x :: l) = (if hasB c.pages x then 0 else 1) + nfC (stepC c x) l := rfl
    rw [e]
    unfold cntP
    by_cases hx : x ∈ c.pages
    · rw [if_pos (hasB_true.2 hx)]
      by_cases hr : x ∈ D
      · rw [if_pos hr]
        have := ih _ _ _ ((hP.old c D F x h hr hDk hD hF hFD).1 hx) hDk hD hF hFD
        omega
      · rw [if_neg hr]
        by_cases hlt : D.length < k
        · rw [if_pos hlt]
          have := ih _ _ _ ((hP.new c D F x h hr hlt hD hF hFD).1 hx) (by simp only [List.length_cons]; omega) (List.nodup_cons.2 ⟨hr, hD⟩) hF (fun y hy => List.mem_cons_of_mem _ (hFD y hy))
          omega
        · rw [if_neg hlt]
          have h1 := ih _ _ _ ((hP.turn c D F x h hr (by omega) hD hF hFD).1 hx) (by simp; omega) (by simp) (by simp) (by simp)
          have h2 := nodup_le hF hFD
          simp only [List.length_nil] at h1
          rw [Nat.mul_add]
          omega
    · rw [if_neg (by rw [hasB_true]; exact hx)]
      by_cases hr : x ∈ D
      · rw [if_pos hr]
        obtain ⟨g1, g2⟩ := (hP.old c D F x h hr hDk hD hF hFD).2 hx
        have := ih _ _ _ g2 hDk hD (List.nodup_cons.2 ⟨g1, hF⟩) (fun y hy => by rcases List.mem_cons.1 hy with rfl | h; exact hr; exact hFD y h)
        simp only [List.length_cons] at this
        omega
      · rw [if_neg hr]
        by_cases hlt : D.length < k
        · rw [if_pos hlt]
          have := ih _ _ _ ((hP.new c D F x h hr hlt hD hF hFD).2 hx) (by simp only [List.length_cons]; omega) (List.nodup_cons.2 ⟨hr, hD⟩) (List.nodup_cons.2 ⟨fun h => hr (hFD x h), hF⟩)
            (fun y hy => by rcases List.mem_cons.1 hy with rfl | h; exact List.mem_cons_self ..; exact List.mem_cons_of_mem _ (hFD y h))
          simp only [List.length_cons] at this
          omega
        · rw [if_neg hlt]
          have h1 := ih _ _ _ ((hP.turn c D F x h hr (by omega) hD hF hFD).2 hx) (by simp; omega) (by simp) (by simp) (by simp)
          have h2 := nodup_le hF hFD
          simp only [List.length_cons, List.length_nil] at h1
          rw [Nat.mul_add]
          omega
/-- at most k times as many as phases -/
theorem Cons.phases {k : Nat} (hk : 0 < k) {P : Ca → List Int → List Int → Prop} (hP : Cons k P) {c : Ca} (h : P c [] []) (l : List Int) : nfC c l ≤ k * cntP k [] l + k := by
  have := hP.low hk l c [] [] h (by simp) (by simp) (by simp) (by simp)
  simpa using this
theorem ratio_of {h k f g n : Nat} (hhk : h ≤ k) (h1 : (k - h + 1) * n ≤ f) (h2 : g ≤ k * n + k) : ((k : Int) - h + 1) * (g - k) ≤ k * f := by
  have e : ((k - h + 1 : Nat) : Int) = (k : Int) - h + 1 := by omega
  rw [← e]
  have h3 : (g : Int) - k ≤ k * n := by
    have : ((k * n : Nat) : Int) = k * n := by simp
    omega
  refine Int.le_trans (Int.mul_le_mul_of_nonneg_left h3 (by omega)) ?_
  have h4 : (((k - h + 1) * n : Nat) : Int) ≤ f := by omega
  rw [Int.natCast_mul] at h4
  have := Int.mul_le_mul_of_nonneg_left h4 (show (0 : Int) ≤ k by omega)
  calc ((k - h + 1 : Nat) : Int) * (k * n) = k * (((k - h + 1 : Nat) : Int) * n) := by rw [← Int.mul_assoc, ← Int.mul_assoc, Int.mul_comm _ (k : Int)]
    _ ≤ k * f := this

theorem step_2 (c : Ca) (x : Int) (h : c.pol = 2) : (stepC c x).pages = if x ∈ c.pages then c.pages else x :: (if (c.pages.length : Int) = c.size then c.pages.eraseIdx (c.pages.length - 1) else c.pages) := by
  unfold stepC
  by_cases hx : x ∈ c.pages
  · rw [if_pos (hasB_true.2 hx), if_pos hx]
    unfold hitC
    simp [h]
  · rw [if_neg (by rw [hasB_true]; exact hx), if_neg hx]
    unfold faultC victim
    simp [h]
theorem step_4 (c : Ca) (x : Int) (h : c.pol = 4) : (stepC c x).pages = if x ∈ c.pages then c.pages else x :: (if (c.pages.length : Int) = c.size then [] else c.pages) := by
  unfold stepC
  by_cases hx : x ∈ c.pages
  · rw [if_pos (hasB_true.2 hx), if_pos hx]
    unfold hitC
    simp [h]
  · rw [if_neg (by rw [hasB_true]; exact hx), if_neg hx]
    unfold faultC
    simp [h]
theorem erase_last' (A R : List Int) (hR : R ≠ []) : (A ++ R).eraseIdx ((A ++ R).length - 1) = A ++ R.eraseIdx (R.length - 1) := by
  have : 0 < R.length := List.length_pos_iff.2 hR
  rw [List.length_append, List.eraseIdx_append_of_length_le (by omega)]
  congr 2
  omega
/-- CacheLRU: the pages of the phase stand in front -/
def PLru (k : Nat) (c : Ca) (D _F : List Int) : Prop := c.pol = 1 ∧ c.size = k ∧ c.pages.length ≤ k ∧ ∃ A R, c.pages = A ++ R ∧ A.Nodup ∧ ∀ x, x ∈ A ↔ x ∈ D
theorem nodup_same {a b : List Int} (ha : a.Nodup) (hb : b.Nodup) (h : ∀ x, x ∈ a ↔ x ∈ b) : a.length = b.length := Nat.le_antisymm (nodup_le ha (fun x hx => (h x).1 hx)) (nodup_le hb (fun x hx => (h x).2 hx))
theorem PLru.step {k : Nat} (hk : 0 < k) {c : Ca} {D F : List Int} (h : PLru k c D F) (x : Int) (hD : D.Nodup) (hlt : x ∈ D ∨ D.length < k) : ∀ D', (∀ y, y ∈ D' ↔ y = x ∨ y ∈ D) → ∀ F', PLru k (stepC c x) D' F' := by
  intro D' hD' F'
  obtain ⟨h1, h2, h3, A, R, h4, h5, h6⟩ := h
  obtain ⟨g1, g2⟩ := stepC_const c x
  have hAD := nodup_same h5 hD h6
  refine ⟨g1.trans h1, g2.trans h2, ?_, ?_⟩
  · rw [step_1 c x h1]
    split
    · rename_i hx
      have := List.length_erase_of_mem hx
      have := List.length_pos_of_mem hx
      simp only [List.length_cons]; omega
    · split
      · rename_i hf
        have := List.length_eraseIdx_of_lt (l := c.pages) (i := c.pages.length - 1) (by omega)
        simp only [List.length_cons]; omega
      · simp only [List.length_cons]; omega
  · rw [step_1 c x h1, h4]
    by_cases hx : x ∈ A
    · rw [if_pos (List.mem_append_left _ hx), List.erase_append, if_pos hx]
      refine ⟨x :: A.erase x, R, rfl, List.nodup_cons.2 ⟨fun h => ((List.Nodup.mem_erase_iff h5).1 h).1 rfl, h5.erase x⟩, fun y => ?_⟩
      rw [List.mem_cons, hD', List.Nodup.mem_erase_iff h5, h6]
      by_cases e : y = x
      · simp [e]
      · simp [e]
    · have hxD : x ∉ D := fun h => hx ((h6 x).2 h)
      have hlt' : D.length < k := hlt.elim (fun h => absurd h hxD) id
      have hA : ∀ R', ∃ A' R'', x :: (A ++ R') = A' ++ R'' ∧ A'.Nodup ∧ ∀ y, y ∈ A' ↔ y ∈ D' := fun R' => ⟨x :: A, R', rfl, List.nodup_cons.2 ⟨hx, h5⟩, fun y => by rw [List.mem_cons, hD', h6]⟩
      by_cases hm : x ∈ A ++ R
      · rw [if_pos hm, List.erase_append, if_neg hx]
        exact hA _
      · rw [if_neg hm]
        split
        · rename_i hf
          rw [erase_last' A R (fun e => by rw [e, List.append_nil] at hf; omega)]
          exact hA _
        · exact hA _
theorem PLru.any {k : Nat} {c : Ca} {D F : List Int} (h : PLru k c D F) (F' : List Int) : PLru k c [] F' := by
  obtain ⟨h1, h2, h3, A, R, h4, h5, h6⟩ := h
  exact ⟨h1, h2, h3, [], A ++ R, h4, by simp, by simp⟩
theorem cons_lru {k : Nat} (hk : 0 < k) : Cons k (PLru k) where
  old c D F x h hx _ hD _ _ := ⟨fun _ => h.step hk x hD (.inl hx) D (fun y => ⟨.inr, fun h => h.elim (fun e => e ▸ hx) id⟩) F, fun hn => by
    obtain ⟨_, _, _, A, R, h4, _, h6⟩ := h
    exact absurd (by rw [h4]; exact List.mem_append_left _ ((h6 x).2 hx)) hn⟩
  new c D F x h _ hlt hD _ _ := ⟨fun _ => h.step hk x hD (.inr hlt) (x :: D) (fun y => by rw [List.mem_cons]) F, fun _ => h.step hk x hD (.inr hlt) (x :: D) (fun y => by rw [List.mem_cons]) _⟩
  turn c D F x h _ _ _ _ _ := ⟨fun _ => (h.any F).step hk x (by simp) (.inr (by simpa using hk)) [x] (fun y => by simp) _, fun _ => (h.any F).step hk x (by simp) (.inr (by simpa using hk)) [x] (fun y => by simp) _⟩

/-- CacheFIFO: the pages that faulted in the phase stand in front -/
def PFifo (k : Nat) (c : Ca) (_D F : List Int) : Prop := c.pol = 2 ∧ c.size = k ∧ c.pages.length ≤ k ∧ ∃ R, c.pages = F ++ R
theorem PFifo.hit {k : Nat} {c : Ca} {D F : List Int} (h : PFifo k c D F) (x : Int) (hx : x ∈ c.pages) (D' : List Int) : PFifo k (stepC c x) D' F := by
  obtain ⟨h1, h2, h3, R, h4⟩ := h
  obtain ⟨g1, g2⟩ := stepC_const c x
  have e := step_2 c x h1
  rw [if_pos hx] at e
  exact ⟨g1.trans h1, g2.trans h2, by rw [e]; exact h3, R, by rw [e]; exact h4⟩
theorem PFifo.miss {k : Nat} {c : Ca} {D F : List Int} (h : PFifo k c D F) (x : Int) (hx : x ∉ c.pages) (hF : F.length < k) (D' : List Int) : x ∉ F ∧ PFifo k (stepC c x) D' (x :: F) := by
  obtain ⟨h1, h2, h3, R, h4⟩ := h
  obtain ⟨g1, g2⟩ := stepC_const c x
  have e := step_2 c x h1
  rw [if_neg hx] at e
  refine ⟨fun h => hx (by rw [h4]; exact List.mem_append_left _ h), g1.trans h1, g2.trans h2, ?_, ?_⟩
  · rw [e]
    split
    · rename_i hf
      have := List.length_eraseIdx_of_lt (l := c.pages) (i := c.pages.length - 1) (by omega)
      simp only [List.length_cons]; omega
    · simp only [List.length_cons]; omega
  · rw [e, h4]
    split
    · rename_i hf
      rw [erase_last' F R (fun e => by rw [e, List.append_nil] at hf; omega)]
      exact ⟨_, rfl⟩
    · exact ⟨R, rfl⟩
theorem PFifo.any {k : Nat} {c : Ca} {D F : List Int} (h : PFifo k c D F) (D' : List Int) : PFifo k c D' [] := by
  obtain ⟨h1, h2, h3, R, h4⟩ := h
  exact ⟨h1, h2, h3, F ++ R, h4⟩
theorem less_of {k : Nat} {F D : List Int} {x : Int} (hF : F.Nodup) (hFD : ∀ y ∈ F, y ∈ D) (hx : x ∉ F) (hxD : x ∈ D) (hD : D.length ≤ k) : F.length < k := by
  have := nodup_le (l := x :: F) (m := D) (List.nodup_cons.2 ⟨hx, hF⟩) (fun y hy => by rcases List.mem_cons.1 hy with rfl | h; exact hxD; exact hFD y h)
  simp only [List.length_cons] at this
  omega
theorem cons_fifo {k : Nat} (hk : 0 < k) : Cons k (PFifo k) where
  old c D F x h hx hDk hD hF hFD := ⟨fun hm => h.hit x hm D, fun hm => by
    have hxF : x ∉ F := fun e => hm (by obtain ⟨_, _, _, R, h4⟩ := h; rw [h4]; exact List.mem_append_left _ e)
    exact h.miss x hm (less_of hF hFD hxF hx hDk) D⟩
  new c D F x h _ hlt hD hF hFD := ⟨fun hm => h.hit x hm _, fun hm => (h.miss x hm (by have := nodup_le hF hFD; omega) _).2⟩
  turn c D F x h _ _ _ _ _ := ⟨fun hm => (h.any D).hit x hm _, fun hm => ((h.any D).miss x hm (by simpa using hk) _).2⟩

/-- CacheFlush: it holds the pages of the phase -/
def PFlush (k : Nat) (c : Ca) (D _F : List Int) : Prop := c.pol = 4 ∧ c.size = k ∧ c.pages.length = D.length ∧ ∀ x, x ∈ c.pages ↔ x ∈ D
theorem cons_flush {k : Nat} (_hk : 0 < k) : Cons k (PFlush k) where
  old c D F x h hx _ hD _ _ := by
    obtain ⟨h1, h2, h3, h4⟩ := h
    obtain ⟨g1, g2⟩ := stepC_const c x
    have e := step_4 c x h1
    refine ⟨fun hm => ?_, fun hm => absurd ((h4 x).2 hx) hm⟩
    rw [if_pos hm] at e
    exact ⟨g1.trans h1, g2.trans h2, by rw [e]; exact h3, by rw [e]; exact h4⟩
  new c D F x h hx hlt hD _ _ := by
    obtain ⟨h1, h2, h3, h4⟩ := h
    obtain ⟨g1, g2⟩ := stepC_const c x
    have e := step_4 c x h1
    have hm : x ∉ c.pages := fun h => hx ((h4 x).1 h)
    rw [if_neg hm, if_neg (by omega)] at e
    have : ∀ F', PFlush k (stepC c x) (x :: D) F' := fun F' => ⟨g1.trans h1, g2.trans h2, by rw [e, List.length_cons, List.length_cons, h3], fun y => by rw [e, List.mem_cons, List.mem_cons, h4]⟩
    exact ⟨fun _ => this _, fun _ => this _⟩
  turn c D F x h hx hl hD _ _ := by
    obtain ⟨h1, h2, h3, h4⟩ := h
    obtain ⟨g1, g2⟩ := stepC_const c x
    have e := step_4 c x h1
    have hm : x ∉ c.pages := fun h => hx ((h4 x).1 h)
    rw [if_neg hm, if_pos (by omega)] at e
    have : ∀ F', PFlush k (stepC c x) [x] F' := fun F' => ⟨g1.trans h1, g2.trans h2, by rw [e]; try rfl, fun y => by rw [e]⟩
    exact ⟨fun _ => this _, fun _ => this _⟩
end Go.Proofs.YtmfhlojmoehmiaaGreat

/- CacheClock faults once at most for each page of a phase (plain) -/
namespace Go.Proofs.YtmfhlojmoehmiaaGreat

/-- the pages with their marks, from the hand on -/
def qOf (p m : List Int) (h : Nat) : List (Int × Int) := (p.zip m).drop h ++ (p.zip m).take h
def turnQ : Nat → List (Int × Int) → List (Int × Int)
  | 0, Q => Q
  | _ + 1, [] => []
  | f + 1, (y, m) :: Q => if m = 1 then turnQ f (Q ++ [(y, 0)]) else (y, m) :: Q

theorem zip_set : ∀ (p m : List Int) (h : Nat) (x v : Int), (p.set h x).zip (m.set h v) = (p.zip m).set h (x, v)
  | [], m, h, x, v => by simp
  | a :: p, [], h, x, v => by cases h <;> simp
  | a :: p, b :: m, 0, x, v => by simp
  | a :: p, b :: m, h + 1, x, v => by simp [zip_set p m h x v]
theorem zip_set2 : ∀ (p m : List Int) (h : Nat) (v : Int) (hh : h < p.length), p.zip (m.set h v) = (p.zip m).set h (p[h], v)
  | a :: p, [], h, v, hh => by cases h <;> simp
  | a :: p, b :: m, 0, v, hh => by simp
  | a :: p, b :: m, h + 1, v, hh => by simp [zip_set2 p m h v (by simpa using hh)]
theorem rot_set {α : Type} (Z : List α) (h : Nat) (v : α) (hh : h < Z.length) : (Z.set h v).drop ((h + 1) % Z.length) ++ (Z.set h v).take ((h + 1) % Z.length) = (Z.drop h ++ Z.take h).tail ++ [v] := by
  have e1 : Z.drop h = Z[h] :: Z.drop (h + 1) := List.drop_eq_getElem_cons hh
  have e2 : Z.set h v = Z.take h ++ v :: Z.drop (h + 1) := by rw [List.set_eq_take_append_cons_drop, if_pos hh]
  have hlt : (Z.take h).length = h := by rw [List.length_take]; omega
  rw [e1, e2]
  simp only [List.cons_append, List.tail_cons]
  by_cases hl : h + 1 < Z.length
  · rw [Nat.mod_eq_of_lt hl]
    have e3 : (Z.take h ++ v :: Z.drop (h + 1)).drop (h + 1) = Z.drop (h + 1) := by
      rw [List.drop_append, List.drop_of_length_le (by omega), hlt, Nat.add_sub_cancel_left]; rfl
    have e4 : (Z.take h ++ v :: Z.drop (h + 1)).take (h + 1) = Z.take h ++ [v] := by
      rw [List.take_append, List.take_of_length_le (by omega), hlt, Nat.add_sub_cancel_left]; rfl
    rw [e3, e4, List.append_assoc]
  · have he : h + 1 = Z.length := by omega
    rw [he, Nat.mod_self, List.drop_length]
    simp
theorem q_front {p m : List Int} {h : Nat} (hm : m.length = p.length) (hh : h < p.length) : qOf p m h = (p[h], m.getD h 0) :: (qOf p m h).tail := by
  have hz : h < (p.zip m).length := by rw [List.length_zip]; omega
  unfold qOf
  rw [List.drop_eq_getElem_cons hz]
  simp only [List.cons_append, List.tail_cons, List.getElem_zip]
  congr 2
  rw [List.getD_eq_getElem?_getD, List.getElem?_eq_getElem (by omega)]; rfl
theorem q_turn {p : List Int} (hp : 0 < p.length) (f : Nat) : ∀ (m : List Int) (h : Nat), m.length = p.length → h < p.length →
    qOf p (turn p.length f m h).1 (turn p.length f m h).2 = turnQ f (qOf p m h) := by
  induction f with
  | zero => intro m h _ _; rfl
  | succ f ih =>
    intro m h hm hh
    rw [q_front hm hh]
    unfold turn turnQ
    by_cases h1 : m.getD h 0 = 1
    · rw [if_pos h1, if_pos h1, ih _ _ (by simpa using hm) (Nat.mod_lt _ hp)]
      congr 1
      have hz : (p.zip m).length = p.length := by rw [List.length_zip]; omega
      have := rot_set (p.zip m) h (p[h], 0) (by omega)
      rw [hz] at this
      unfold qOf
      rw [zip_set2 p m h 0 hh]
      exact this
    · rw [if_neg h1, if_neg h1]
      exact q_front hm hh
theorem q_put {p m : List Int} {h : Nat} (hm : m.length = p.length) (hh : h < p.length) (x : Int) : qOf (p.set h x) (m.set h 1) ((h + 1) % p.length) = (qOf p m h).tail ++ [(x, 1)] := by
  have hz : (p.zip m).length = p.length := by rw [List.length_zip]; omega
  have := rot_set (p.zip m) h (x, 1) (by omega)
  rw [hz] at this
  unfold qOf
  rw [zip_set]
  exact this
theorem q_hit {p m : List Int} (h : Nat) (hn : p.Nodup) {i : Nat} (hi : i < p.length) : qOf p (m.set i 1) h = (qOf p m h).map (fun z => if z.1 = p[i] then (z.1, 1) else z) := by
  have e : p.zip (m.set i 1) = (p.zip m).map (fun z => if z.1 = p[i] then (z.1, 1) else z) := by
    apply List.ext_getElem
    · simp
    · intro j h1 h2
      simp only [List.length_zip, List.length_set, List.length_map] at h1 h2
      simp only [List.getElem_zip, List.getElem_set, List.getElem_map]
      by_cases e : i = j
      · subst e; simp
      · have hne : p[j]'(by omega) ≠ p[i] := fun h => e (nod_inj hn (by omega) hi h).symm
        rw [if_neg e, if_neg hne]
  unfold qOf
  rw [e, List.map_append, List.map_drop, List.map_take]
theorem turn_stop (Q1 : List (Int × Int)) : ∀ (Q2 : List (Int × Int)) (f : Nat), (∀ z ∈ Q2, z.2 ≠ 1) → Q1 ++ Q2 ≠ [] → ∃ z Q, turnQ (Q1.length + 1 + f) (Q1 ++ Q2) = z :: Q ∧ z.2 ≠ 1 := by
  induction Q1 with
  | nil =>
    intro Q2 f h2 hne
    cases Q2 with
    | nil => exact absurd rfl hne
    | cons z Q2 =>
      have hz := h2 z (List.mem_cons_self ..)
      obtain ⟨y, m⟩ := z
      refine ⟨(y, m), Q2, ?_, hz⟩
      simp only [List.nil_append, List.length_nil]
      rw [show 0 + 1 + f = f + 1 by omega]
      unfold turnQ
      rw [if_neg hz]
  | cons z Q1 ih =>
    intro Q2 f h2 hne
    obtain ⟨y, m⟩ := z
    have e : ((y, m) :: Q1).length + 1 + f = (Q1.length + 1 + f) + 1 := by simp only [List.length_cons]; omega
    rw [e, List.cons_append]
    unfold turnQ
    by_cases hm : m = 1
    · rw [if_pos hm, List.append_assoc]
      exact ih (Q2 ++ [(y, 0)]) f (fun z hz => by
        rcases List.mem_append.1 hz with hz | hz
        · exact h2 z hz
        · rw [List.mem_singleton] at hz; subst hz; simp) (by simp)
    · rw [if_neg hm]
      exact ⟨_, _, rfl, hm⟩

/-- the three parts of the queue: not yet passed in this phase, passed once, passed twice -/
def QInv (D F : List Int) (Q : List (Int × Int)) : Prop := ∃ U V W, Q = U ++ V ++ W ∧ (U = [] ∨ W = []) ∧ (∀ z ∈ V, z.2 = 1 → z.1 ∈ D) ∧ (∀ z ∈ W, z.1 ∈ D) ∧ (∀ z ∈ V, z.1 ∈ F → z.2 = 1) ∧ (∀ z ∈ U, z.1 ∉ F)
theorem QInv.more {D D' F : List Int} {Q : List (Int × Int)} (h : QInv D F Q) (hD : ∀ y ∈ D, y ∈ D') : QInv D' F Q := by
  obtain ⟨U, V, W, h1, h2, h3, h4, h5, h6⟩ := h
  exact ⟨U, V, W, h1, h2, fun z hz e => hD _ (h3 z hz e), fun z hz => hD _ (h4 z hz), h5, h6⟩
theorem QInv.turn1 {D F : List Int} {y : Int} {Q : List (Int × Int)} (h : QInv D F ((y, 1) :: Q)) : QInv D F (Q ++ [(y, 0)]) := by
  obtain ⟨U, V, W, h1, h2, h3, h4, h5, h6⟩ := h
  cases U with
  | cons z U =>
    have hW : W = [] := h2.resolve_left (by simp)
    subst hW
    rw [List.append_nil, List.cons_append, List.cons.injEq] at h1
    obtain ⟨rfl, rfl⟩ := h1
    refine ⟨U, V ++ [(y, 0)], [], by simp, .inr rfl, fun z hz e => ?_, by simp, fun z hz e => ?_, fun z hz => h6 z (List.mem_cons_of_mem _ hz)⟩
    · rcases List.mem_append.1 hz with hz | hz
      · exact h3 z hz e
      · rw [List.mem_singleton] at hz; subst hz; simp at e
    · rcases List.mem_append.1 hz with hz | hz
      · exact h5 z hz e
      · rw [List.mem_singleton] at hz; subst hz
        exact absurd e (h6 (y, 1) (List.mem_cons_self ..))
  | nil =>
    rw [List.nil_append] at h1
    cases V with
    | cons z V =>
      rw [List.cons_append, List.cons.injEq] at h1
      obtain ⟨rfl, rfl⟩ := h1
      refine ⟨[], V, W ++ [(y, 0)], by simp, .inl rfl, fun z hz e => h3 z (List.mem_cons_of_mem _ hz) e, fun z hz => ?_, fun z hz e => h5 z (List.mem_cons_of_mem _ hz) e, by simp⟩
      rcases List.mem_append.1 hz with hz | hz
      · exact h4 z hz
      · rw [List.mem_singleton] at hz; subst hz
        exact h3 (y, 1) (List.mem_cons_self ..) rfl
    | nil =>
      rw [List.nil_append] at h1
      subst h1
      refine ⟨[], [], Q ++ [(y, 0)], by simp, .inl rfl, by simp, fun z hz => ?_, by simp, by simp⟩
      rcases List.mem_append.1 hz with hz | hz
      · exact h4 z (List.mem_cons_of_mem _ hz)
      · rw [List.mem_singleton] at hz; subst hz
        exact h4 (y, 1) (List.mem_cons_self ..)
theorem QInv.turned {D F : List Int} (f : Nat) : ∀ {Q : List (Int × Int)}, QInv D F Q → QInv D F (turnQ f Q) := by
  induction f with
  | zero => intro Q h; exact h
  | succ f ih =>
    intro Q h
    cases Q with
    | nil => exact h
    | cons z Q =>
      obtain ⟨y, m⟩ := z
      unfold turnQ
      by_cases hm : m = 1
      · rw [if_pos hm]; subst hm; exact ih h.turn1
      · rw [if_neg hm]; exact h
/-- one leaves, or all are of the phase -/
theorem QInv.out {D F : List Int} {z : Int × Int} {Q : List (Int × Int)} (h : QInv D F (z :: Q)) (hz : z.2 ≠ 1) (x : Int) (hx : x ∈ D) (hQ : ∀ z ∈ Q, z.1 ≠ x) (_hxF : x ∉ F) :
    (z.1 ∉ F ∧ QInv D (x :: F) (Q ++ [(x, 1)])) ∨ ∀ z' ∈ z :: Q, z'.1 ∈ D := by
  obtain ⟨U, V, W, h1, h2, h3, h4, h5, h6⟩ := h
  cases U with
  | cons z' U =>
    have hW : W = [] := h2.resolve_left (by simp)
    subst hW
    rw [List.append_nil, List.cons_append, List.cons.injEq] at h1
    obtain ⟨rfl, rfl⟩ := h1
    refine .inl ⟨h6 z (List.mem_cons_self ..), U, V ++ [(x, 1)], [], by simp, .inr rfl, fun w hw e => ?_, by simp, fun w hw e => ?_, fun w hw e => ?_⟩
    · rcases List.mem_append.1 hw with hw | hw
      · exact h3 w hw e
      · rw [List.mem_singleton] at hw; subst hw; exact hx
    · rcases List.mem_append.1 hw with hw | hw
      · rcases List.mem_cons.1 e with e | e
        · exact absurd e (hQ w (List.mem_append_right _ hw))
        · exact h5 w hw e
      · rw [List.mem_singleton] at hw; subst hw; rfl
    · rcases List.mem_cons.1 e with e | e
      · exact absurd e (hQ w (List.mem_append_left _ hw))
      · exact h6 w (List.mem_cons_of_mem _ hw) e
  | nil =>
    rw [List.nil_append] at h1
    cases V with
    | cons z' V =>
      rw [List.cons_append, List.cons.injEq] at h1
      obtain ⟨rfl, rfl⟩ := h1
      refine .inl ⟨fun e => hz (h5 z (List.mem_cons_self ..) e), [], V, W ++ [(x, 1)], by simp, .inl rfl, fun w hw e => h3 w (List.mem_cons_of_mem _ hw) e, fun w hw => ?_, fun w hw e => ?_, by simp⟩
      · rcases List.mem_append.1 hw with hw | hw
        · exact h4 w hw
        · rw [List.mem_singleton] at hw; subst hw; exact hx
      · rcases List.mem_cons.1 e with e | e
        · exact absurd e (hQ w (List.mem_append_left _ hw))
        · exact h5 w (List.mem_cons_of_mem _ hw) e
    | nil =>
      rw [List.nil_append] at h1
      subst h1
      exact .inr h4
theorem QInv.add {D F : List Int} {Q : List (Int × Int)} (h : QInv D F Q) (x : Int) (hx : x ∈ D) (hQ : ∀ z ∈ Q, z.1 ≠ x) : QInv D (x :: F) (Q ++ [(x, 1)]) := by
  obtain ⟨U, V, W, h1, h2, h3, h4, h5, h6⟩ := h
  have hU : ∀ z ∈ U, z.1 ∉ x :: F := fun z hz e => by
    rcases List.mem_cons.1 e with e | e
    · exact hQ z (by rw [h1]; simp [hz]) e
    · exact h6 z hz e
  have hV : ∀ z ∈ V, z.1 ∈ x :: F → z.2 = 1 := fun z hz e => by
    rcases List.mem_cons.1 e with e | e
    · exact absurd e (hQ z (by rw [h1]; simp [hz]))
    · exact h5 z hz e
  by_cases hW : W = []
  · subst hW
    refine ⟨U, V ++ [(x, 1)], [], by rw [h1]; simp, .inr rfl, fun w hw e => ?_, by simp, fun w hw e => ?_, hU⟩
    · rcases List.mem_append.1 hw with hw | hw
      · exact h3 w hw e
      · rw [List.mem_singleton] at hw; subst hw; exact hx
    · rcases List.mem_append.1 hw with hw | hw
      · exact hV w hw e
      · rw [List.mem_singleton] at hw; subst hw; rfl
  · refine ⟨U, V, W ++ [(x, 1)], by rw [h1]; simp, .inl (h2.resolve_right hW), h3, fun w hw => ?_, hV, hU⟩
    rcases List.mem_append.1 hw with hw | hw
    · exact h4 w hw
    · rw [List.mem_singleton] at hw; subst hw; exact hx
theorem QInv.hit {D F : List Int} {Q : List (Int × Int)} (h : QInv D F Q) (x : Int) (hx : x ∈ D) : QInv D F (Q.map (fun z => if z.1 = x then (z.1, 1) else z)) := by
  obtain ⟨U, V, W, h1, h2, h3, h4, h5, h6⟩ := h
  have hm : ∀ (L : List (Int × Int)) (z : Int × Int), z ∈ L.map (fun z => if z.1 = x then (z.1, 1) else z) → ∃ z' ∈ L, z.1 = z'.1 ∧ (z = z' ∨ (z.1 = x ∧ z.2 = 1)) := fun L z hz => by
    obtain ⟨z', h', rfl⟩ := List.mem_map.1 hz
    by_cases e : z'.1 = x
    · exact ⟨z', h', by rw [if_pos e], .inr (by rw [if_pos e]; exact ⟨e, rfl⟩)⟩
    · exact ⟨z', h', by rw [if_neg e], .inl (by rw [if_neg e])⟩
  refine ⟨_, _, _, by rw [h1, List.map_append, List.map_append], ?_, fun z hz e => ?_, fun z hz => ?_, fun z hz e => ?_, fun z hz => ?_⟩
  · rcases h2 with rfl | rfl
    · exact .inl rfl
    · exact .inr rfl
  · obtain ⟨z', g1, g2, g3⟩ := hm _ _ hz
    rcases g3 with rfl | ⟨g3, _⟩
    · exact h3 _ g1 e
    · rw [g3]; exact hx
  · obtain ⟨z', g1, g2, _⟩ := hm _ _ hz
    rw [g2]; exact h4 _ g1
  · obtain ⟨z', g1, g2, g3⟩ := hm _ _ hz
    rcases g3 with rfl | ⟨_, g3⟩
    · exact h5 _ g1 e
    · exact g3
  · obtain ⟨z', g1, g2, _⟩ := hm _ _ hz
    rw [g2]; exact h6 _ g1

/-- CacheClock -/
def PClock (k : Nat) (c : Ca) (D F : List Int) : Prop :=
  c.pol = 6 ∧ c.size = k ∧ Ok c ∧ c.pages.Nodup ∧ (c.pages.length < k → c.hand = 0) ∧ QInv D F (qOf c.pages c.marks c.hand.toNat) ∧ ∀ y ∈ F, y ∈ c.pages
theorem PClock.any {k : Nat} {c : Ca} {D F : List Int} (h : PClock k c D F) : PClock k c [] [] := by
  obtain ⟨h1, h2, h3, h4, h5, _, _⟩ := h
  exact ⟨h1, h2, h3, h4, h5, ⟨qOf c.pages c.marks c.hand.toNat, [], [], by simp, .inr rfl, by simp, by simp, by simp, by simp⟩, by simp⟩
theorem q_mem {p m : List Int} {h : Nat} {z : Int × Int} (hz : z ∈ qOf p m h) : z.1 ∈ p := by
  unfold qOf at hz
  have : z ∈ p.zip m := (List.mem_append.1 hz).elim List.mem_of_mem_drop List.mem_of_mem_take
  exact (List.of_mem_zip (a := z.1) (b := z.2) this).1
theorem q_all {p m : List Int} (hm : m.length = p.length) {h : Nat} {y : Int} (hy : y ∈ p) : ∃ z ∈ qOf p m h, z.1 = y := by
  obtain ⟨i, hi, rfl⟩ := List.mem_iff_getElem.1 hy
  have : (p[i], m[i]'(by omega)) ∈ p.zip m := by
    rw [← List.getElem_zip (i := i) (h := by rw [List.length_zip]; omega)]
    exact List.getElem_mem _
  rw [← List.take_append_drop h (p.zip m)] at this
  refine ⟨(p[i], m[i]'(by omega)), ?_, rfl⟩
  unfold qOf
  exact List.mem_append.2 ((List.mem_append.1 this).elim .inr .inl)
theorem PClock.hitS {k : Nat} {c : Ca} {D F : List Int} (h : PClock k c D F) (x : Int) (hx : x ∈ c.pages) {D' : List Int} (hD : ∀ y ∈ D, y ∈ D') (hxD : x ∈ D') : PClock k (stepC c x) D' F := by
  obtain ⟨h1, h2, h3, h4, h5, h6, h7⟩ := h
  obtain ⟨g1, g2⟩ := stepC_const c x
  have hok := ok_step h3 x
  have hnod := nod_step h4 x
  have e : stepC c x = { c with marks := c.marks.set (atI c.pages x).toNat 1 } := by
    unfold stepC
    rw [if_pos (hasB_true.2 hx)]
    unfold hitC
    rw [if_neg (by omega), if_neg (by omega), if_pos h1]
  rcases atI_spec c.pages x with ⟨_, i, hi, he⟩ | ⟨hn, _⟩
  · have hix : c.pages[i] = x := by
      have h0 : (atI c.pages x) = (c.pages.idxOf x : Int) := by unfold atI; rw [if_pos hx]
      have : i = c.pages.idxOf x := by omega
      subst this
      exact List.getElem_idxOf hi
    refine ⟨g1.trans h1, g2.trans h2, hok, hnod, ?_, ?_, ?_⟩
    · rw [e]; exact h5
    · rw [e, he, Int.toNat_natCast]
      show QInv D' F (qOf c.pages (c.marks.set i 1) c.hand.toNat)
      rw [q_hit _ h4 hi, hix]
      exact (h6.more hD).hit x hxD
    · rw [e]; exact h7
  · rw [hasB_true.2 hx] at hn; cases hn
theorem PClock.missS {k : Nat} {c : Ca} {D F : List Int} (h : PClock k c D F) (x : Int) (hx : x ∉ c.pages) {D' : List Int} (hD : ∀ y ∈ D, y ∈ D') (hxD : x ∈ D') (hk : D'.length ≤ k) (_hn : D'.Nodup) :
    x ∉ F ∧ PClock k (stepC c x) D' (x :: F) := by
  obtain ⟨h1, h2, h3, h4, h5, h6, h7⟩ := h
  have hxF : x ∉ F := fun e => hx (h7 x e)
  refine ⟨hxF, ?_⟩
  obtain ⟨g1, g2⟩ := stepC_const c x
  have hok := ok_step h3 x
  have hnod := nod_step h4 x
  have hml := h3.marks (.inr h1)
  have hs := h3.size
  have hl := h3.len
  have hh := h3.hand
  have e : stepC c x = clockC c x := by
    unfold stepC
    rw [if_neg (by rw [hasB_true]; exact hx)]
    unfold faultC
    rw [if_pos h1]
  have hQx : ∀ m h, ∀ z ∈ qOf c.pages m h, z.1 ≠ x := fun m h z hz e => hx (e ▸ q_mem hz)
  by_cases hlt : (c.pages.length : Int) < c.size
  · have h0 := h5 (by omega)
    have e2 : clockC c x = { c with pages := c.pages ++ [x], marks := c.marks ++ [1] } := by unfold clockC; rw [if_pos hlt]
    refine ⟨g1.trans h1, g2.trans h2, hok, hnod, ?_, ?_, ?_⟩
    · intro _; rw [e, e2]; exact h0
    · rw [e, e2]
      show QInv D' (x :: F) (qOf (c.pages ++ [x]) (c.marks ++ [1]) c.hand.toNat)
      rw [h0] at h6 ⊢
      have e3 : qOf (c.pages ++ [x]) (c.marks ++ [1]) (0 : Int).toNat = qOf c.pages c.marks (0 : Int).toNat ++ [(x, 1)] := by
        unfold qOf
        simp only [Int.toNat_zero, List.drop_zero, List.take_zero, List.append_nil]
        rw [List.zip_append hml.symm]; rfl
      rw [e3]
      exact (h6.more hD).add x hxD (hQx _ _)
    · rw [e, e2]
      intro y hy
      rcases List.mem_cons.1 hy with rfl | hy
      · simp
      · exact List.mem_append_left _ (h7 y hy)
  · have hfull : c.pages.length = k := by omega
    have hK : c.size.toNat = c.pages.length := by omega
    obtain ⟨t1, t2, _⟩ := turn_props c.size.toNat (by omega) (c.marks.length + 1) c.marks c.hand.toNat (by omega)
    have hq := q_turn (p := c.pages) (by omega) (c.marks.length + 1) c.marks c.hand.toNat hml (by omega)
    rw [← hK] at hq
    have eT : turn c.size.toNat (c.marks.length + 1) c.marks c.hand.toNat = Go.Proofs.YtmfhlojmoehmiaaGreat.turned c := rfl
    rw [eT] at hq t1 t2
    have hstop := turn_stop (qOf c.pages c.marks c.hand.toNat) [] 0 (by simp) (by
      rw [List.append_nil, q_front hml (by omega)]; simp)
    have hql : (qOf c.pages c.marks c.hand.toNat).length = c.marks.length := by
      unfold qOf
      rw [List.length_append, List.length_drop, List.length_take, List.length_zip]
      omega
    rw [hql, Nat.add_zero, List.append_nil, ← hq] at hstop
    obtain ⟨z, Q, hzQ, hz⟩ := hstop
    have h6' : QInv D' F (z :: Q) := by rw [← hzQ, hq]; exact (h6.more hD).turned _
    have hfr := q_front (p := c.pages) (m := (Go.Proofs.YtmfhlojmoehmiaaGreat.turned c).1) (h := (Go.Proofs.YtmfhlojmoehmiaaGreat.turned c).2) (by omega) (by omega)
    have hz1 : z.1 = c.pages[(Go.Proofs.YtmfhlojmoehmiaaGreat.turned c).2]'(by omega) := by
      rw [hzQ] at hfr
      rw [List.cons.injEq] at hfr
      rw [hfr.1]
    have e2 : clockC c x = { c with pages := c.pages.set (Go.Proofs.YtmfhlojmoehmiaaGreat.turned c).2 x, marks := (Go.Proofs.YtmfhlojmoehmiaaGreat.turned c).1.set (Go.Proofs.YtmfhlojmoehmiaaGreat.turned c).2 1, hand := ((Go.Proofs.YtmfhlojmoehmiaaGreat.turned c).2 + 1 : Int) % c.size } := by
      unfold clockC; rw [if_neg hlt]
    have hput := q_put (p := c.pages) (m := (Go.Proofs.YtmfhlojmoehmiaaGreat.turned c).1) (h := (Go.Proofs.YtmfhlojmoehmiaaGreat.turned c).2) (by omega) (by omega) x
    rw [hzQ, List.tail_cons] at hput
    rcases h6'.out hz x hxD (fun w hw => hQx _ _ w (by rw [hzQ]; exact List.mem_cons_of_mem _ hw)) hxF with ⟨k1, k2⟩ | hall
    · refine ⟨g1.trans h1, g2.trans h2, hok, hnod, ?_, ?_, ?_⟩
      · intro h; rw [e, e2] at h; simp only [List.length_set] at h; omega
      · rw [e, e2]
        show QInv D' (x :: F) (qOf (c.pages.set _ x) (List.set _ _ 1) (((Go.Proofs.YtmfhlojmoehmiaaGreat.turned c).2 + 1 : Int) % c.size).toNat)
        have hhand : (((Go.Proofs.YtmfhlojmoehmiaaGreat.turned c).2 + 1 : Int) % c.size).toNat = ((Go.Proofs.YtmfhlojmoehmiaaGreat.turned c).2 + 1) % c.pages.length := by
          have : c.size = (c.pages.length : Int) := by omega
          rw [this]
          have e : ((Go.Proofs.YtmfhlojmoehmiaaGreat.turned c).2 + 1 : Int) % (c.pages.length : Int) = (((((Go.Proofs.YtmfhlojmoehmiaaGreat.turned c).2 + 1) % c.pages.length : Nat)) : Int) := by simp
          rw [e, Int.toNat_natCast]
        rw [hhand, hput]
        exact k2
      · rw [e, e2]
        intro y hy
        show y ∈ c.pages.set _ x
        rcases List.mem_cons.1 hy with rfl | hy
        · exact List.mem_iff_getElem.2 ⟨(Go.Proofs.YtmfhlojmoehmiaaGreat.turned c).2, by rw [List.length_set]; omega, by simp⟩
        · have hyp := h7 y hy
          refine Classical.byContradiction fun hn => ?_
          have := (gone_set h4 (v := (Go.Proofs.YtmfhlojmoehmiaaGreat.turned c).2) (by omega) hx y).1 ⟨hyp, hn⟩
          exact k1 (by rw [hz1, ← this]; exact hy)
    · exfalso
      have hsub : ∀ y ∈ x :: c.pages, y ∈ D' := fun y hy => by
        rcases List.mem_cons.1 hy with rfl | hy
        · exact hxD
        · obtain ⟨w, hw, rfl⟩ := q_all (p := c.pages) (m := (Go.Proofs.YtmfhlojmoehmiaaGreat.turned c).1) (by omega) (h := (Go.Proofs.YtmfhlojmoehmiaaGreat.turned c).2) hy
          rw [hzQ] at hw
          exact hall w hw
      have := nodup_le (List.nodup_cons.2 ⟨hx, h4⟩) hsub
      simp only [List.length_cons] at this
      omega
theorem cons_clock {k : Nat} (hk : 0 < k) : Cons k (PClock k) where
  old c D F x h hx hDk hD hF hFD := ⟨fun hm => h.hitS x hm (fun _ h => h) hx, fun hm => h.missS x hm (fun _ h => h) hx hDk hD⟩
  new c D F x h hx hlt hD hF hFD := ⟨fun hm => h.hitS x hm (fun _ h => List.mem_cons_of_mem _ h) (List.mem_cons_self ..), fun hm => (h.missS x hm (fun _ h => List.mem_cons_of_mem _ h) (List.mem_cons_self ..) (by simp only [List.length_cons]; omega) (List.nodup_cons.2 ⟨hx, hD⟩)).2⟩
  turn c D F x h _ _ _ _ _ := ⟨fun hm => h.any.hitS x hm (by simp) (by simp), fun hm => (h.any.missS x hm (by simp) (by simp) (by simp only [List.length_cons, List.length_nil]; omega) (by simp)).2⟩
end Go.Proofs.YtmfhlojmoehmiaaGreat

/- FnPolicies: the law -/
namespace Go.Proofs.YtmfhlojmoehmiaaGreat
open Go.RowKit

theorem pag_asked {k n p : Int} {l : List Int} (hp : 1 ≤ p ∧ p ≤ 7) : askedB n p k l = pagB k n l := by
  unfold askedB pagB reqB
  have : inB p 1 7 = true := inB_iff.2 hp
  simp [this, Bool.and_assoc]
theorem pag_less {k n h : Int} {l : List Int} (hp : pagB k n l = true) (hh : 1 ≤ h ∧ h ≤ k) : pagB h n l = true := by
  unfold pagB at hp ⊢
  simp only [Bool.and_eq_true, inB_iff] at hp ⊢
  exact ⟨by omega, hp.2⟩
theorem few_le {k n p : Int} {l : List Int} (hp : pagB k n l = true) (h7 : 1 ≤ p ∧ p ≤ 7) : fewN k n l ≤ ((places (newC p k) l).length : Int) := by
  obtain ⟨h1, _⟩ := pagB_facts hp
  obtain ⟨g1, g2⟩ := fewN_ok hp
  have := fewest_run (p := p) (ok_new h7 h1) g2
  rw [places_nf]; omega
theorem few_bound {k n : Int} {l : List Int} (hp : pagB k n l = true) : 0 ≤ fewN k n l ∧ fewN k n l ≤ 60 := by
  have h1 := few_le (p := 1) hp (by omega)
  have h2 := nfC_le l (newC 1 k)
  rw [← places_nf] at h2
  have h3 := (pagB_facts hp).2.2.1
  exact ⟨(fewN_ok hp).1, by omega⟩
theorem pol_bound {p k : Int} (hk : 1 ≤ k) (h : p = 1 ∨ p = 2 ∨ p = 4 ∨ p = 6) (hk6 : k ≤ 6) (l : List Int) : nfC (newC p k) l ≤ k.toNat * cntP k.toNat [] l + k.toNat := by
  have e : ((k.toNat : Nat) : Int) = k := by omega
  have hkt : 0 < k.toNat := by omega
  rcases h with rfl | rfl | rfl | rfl
  · exact (cons_lru hkt).phases hkt ⟨rfl, e.symm, by simp [newC], [], [], rfl, by simp, by simp⟩ l
  · exact (cons_fifo hkt).phases hkt ⟨rfl, e.symm, by simp [newC], [], rfl⟩ l
  · exact (cons_flush hkt).phases hkt ⟨rfl, e.symm, rfl, by simp [newC]⟩ l
  · exact (cons_clock hkt).phases hkt ⟨rfl, e.symm, ok_new (by omega) ⟨hk, hk6⟩, by simp [newC], fun _ => rfl, ⟨[], [], [], rfl, .inl rfl, by simp, by simp, by simp, by simp⟩, by simp⟩ l
theorem pol_ratio {k n p h : Int} {l : List Int} (hp : pagB k n l = true) (h4 : p = 1 ∨ p = 2 ∨ p = 4 ∨ p = 6) (hh : 1 ≤ h ∧ h ≤ k) : (k - h + 1) * (((places (newC p k) l).length : Int) - k) ≤ k * fewN h n l := by
  obtain ⟨h1, _⟩ := pagB_facts hp
  obtain ⟨g1, g2⟩ := fewN_ok (pag_less hp hh)
  have hb := pol_bound h1.1 h4 h1.2 l
  have ho := opt_phases (h := h.toNat) (k := k.toNat) (by omega) (by omega) g2
  have := ratio_of (by omega) ho hb
  rw [← places_nf] at this
  have e1 : ((k.toNat : Nat) : Int) = k := by omega
  have e2 : ((h.toNat : Nat) : Int) = h := by omega
  have e3 : (((fewN h n l).toNat : Nat) : Int) = fewN h n l := by omega
  rw [e1, e2, e3] at this
  exact this

set_option maxRecDepth 100000 in
set_option maxHeartbeats 4000000 in
theorem law_FnPolicies (v : Value) (n : Nat) (w : World) (h : Code w v n) :
    Calls Tryz.prog 10 #[v] w fun e w' => e = .returned (.bool true) ∧ Chg No w w' := by
  obtain ⟨a, cp, rfl⟩ := h.shape
  go_enter Tryz.func10, Tryz.ntmps10
  go_wp2_with fail
  refine (rBig_any _ _ _ h).mono ?_
  rintro e w' ⟨rfl, rfl⟩
  by_cases hbig : (65536 : Int) < (n : Int)
  · go_wp2_with fail
    go_ret
    exact ⟨rfl, Chg.refl No _⟩
  · go_wp2_with fail
    refine (DrawFarthest_any _ _ _ h (by omega)).mono ?_
    rintro e w1 ⟨k, m, rv, l, rfl, ho, hl, k1⟩
    have hr := ho.readNo
    clear ho
    go_wp2_with fail
    refine (implFewest_any k m rv l w1 hr).mono ?_
    rintro e w2 ⟨_, _, rfl, rfl, rfl, k2⟩
    replace hr := hr.keep k2
    have kk2 := k1.keep k2
    go_wp2_with fail
    refine (specFewest_any k m rv l w2 hr).mono ?_
    rintro e w3 ⟨_, _, rfl, rfl, rfl, k3⟩
    replace hr := hr.keep k3
    have kk3 := kk2.keep k3
    clear k1 k2 k3 kk2 h
    obtain ⟨fv, hfv⟩ : ∃ fv, fewV k m l = fv := ⟨_, rfl⟩
    rw [hfv]
    have HFV := Lib.hid hfv
    clear hfv
    cases hp : pagB k m l
    · have HP := Lib.hid hp
      clear hp
      go_wp2_with fail
      go_loopw [10] (fun z wr => ∃ p : Nat, 1 ≤ p ∧ p ≤ 8 ∧ z = .int .i64 (p : Int) ∧ Chg No w3 wr) (fun z _ => 8 - (intOf z).toNat)
      case atStart => exact ⟨1, by omega, by omega, rfl, Chg.refl _ _⟩
      case round =>
        obtain ⟨p, hp1, hp8, rfl, hch⟩ := hrel
        by_cases hp7 : p ≤ 7
        · have hpI : (p : Int) ≤ 7 := by omega
          have hw1 : IntKind.i64.wrap ((p : Int) + 1) = (p : Int) + 1 := IntWalk.i64_in _ (by omega)
          have hask : askedB m (p : Int) k l = false := (pag_asked (by omega)).trans HP.out
          have hnil : (if askedB m (p : Int) k l then places (newC (p : Int) k) l else []) = [] := by rw [hask]; rfl
          have HASK := Lib.hid hask
          have HNIL := Lib.hid hnil
          clear hask hnil
          go_wp2_with fail
          refine (implFaultPlaces_any No m p k rv l _ (hr.keep hch)).mono ?_
          rintro e w4 ⟨v4, _, rfl, rfl, o4, k4⟩
          rw [HNIL.out] at o4
          rw [HASK.out]
          replace hch := hch.keep k4
          obtain ⟨a4, n4, c4, rfl⟩ := o4.shape
          go_wp2_with fail
          refine (specFaultPlaces_any No m p k rv l _ (hr.keep hch) (Bd.no _)).mono ?_
          rintro e w5 ⟨v5, _, rfl, rfl, o5, k5⟩
          rw [HNIL.out] at o5
          rw [HASK.out]
          replace hch := hch.keep k5
          replace o4 := o4.keep k5
          obtain ⟨a5, n5, c5, rfl⟩ := o5.shape
          go_wp2_with fail
          refine (rInts_same No No _ _ [] w5 o4.readNo o5.readNo).mono ?_
          rintro e w6 ⟨_, rfl, rfl, k6⟩
          replace hch := hch.keep k6
          go_wp2_with fail
          go_round
          case rel => exact ⟨p + 1, by omega, by omega, by go_num, hch⟩
          case measure => simp [intOf]; omega
        · have hp8' : p = 8 := by omega
          subst hp8'
          go_wp2_with fail
          go_ret
          exact ⟨rfl, kk3.keep hch⟩
    · obtain ⟨h1, h2, h3, h4⟩ := pagB_facts hp
      have hf0 := few_bound hp
      have hfe : fv = fewN k m l := by rw [← HFV.out]; unfold fewV; rw [hp]; rfl
      rw [← hfe] at hf0
      have HFE := Lib.hid hfe
      have HP := Lib.hid hp
      clear hp hfe h4
      go_wp2_with fail
      go_loopw [10] (fun z wr => ∃ p : Nat, 1 ≤ p ∧ p ≤ 8 ∧ z = .int .i64 (p : Int) ∧ Chg No w3 wr) (fun z _ => 8 - (intOf z).toNat)
      case atStart => exact ⟨1, by omega, by omega, rfl, Chg.refl _ _⟩
      case round =>
        obtain ⟨p, hp1, hp8, rfl, hch⟩ := hrel
        by_cases hp7 : p ≤ 7
        · have hpI : (p : Int) ≤ 7 := by omega
          have hw1 : IntKind.i64.wrap ((p : Int) + 1) = (p : Int) + 1 := IntWalk.i64_in _ (by omega)
          have hask : askedB m (p : Int) k l = true := (pag_asked (by omega)).trans HP.out
          obtain ⟨pl, hpl⟩ : ∃ pl, places (newC (p : Int) k) l = pl := ⟨_, rfl⟩
          have hnil : (if askedB m (p : Int) k l then places (newC (p : Int) k) l else []) = pl := by rw [hask, ← hpl]; rfl
          have hlow := few_le (p := (p : Int)) HP.out (by omega)
          rw [hpl, ← HFE.out] at hlow
          have hlen := nfC_le l (newC (p : Int) k)
          rw [← places_nf, hpl] at hlen
          have HASK := Lib.hid hask
          have HNIL := Lib.hid hnil
          have HPL := Lib.hid hpl
          clear hask hnil hpl
          go_wp2_with fail
          refine (implFaultPlaces_any No m p k rv l _ (hr.keep hch)).mono ?_
          rintro e w4 ⟨v4, _, rfl, rfl, o4, k4⟩
          rw [HNIL.out] at o4
          rw [HASK.out]
          replace hch := hch.keep k4
          obtain ⟨a4, c4, rfl, _⟩ := id o4.view
          go_wp2_with fail
          refine (specFaultPlaces_any No m p k rv l _ (hr.keep hch) (Bd.no _)).mono ?_
          rintro e w5 ⟨v5, _, rfl, rfl, o5, k5⟩
          rw [HNIL.out] at o5
          rw [HASK.out]
          replace hch := hch.keep k5
          replace o4 := o4.keep k5
          obtain ⟨a5, c5, rfl, _⟩ := id o5.view
          go_wp2_with fail
          refine (rInts_same No No _ _ pl w5 o4.readNo o5.readNo).mono ?_
          rintro e w6 ⟨_, rfl, rfl, k6⟩
          replace hch := hch.keep k6
          clear o4 o5 k4 k5 k6
          have hlow2 : ¬ ((pl.length : Int) < fv) := by omega
          by_cases hfour : (p = 1 ∨ p = 2 ∨ p = 4 ∨ p = 6)
          · have hrat := fun h (hh : 1 ≤ h ∧ h ≤ k) => pol_ratio (p := (p : Int)) (h := h) HP.out (by omega) hh
            have hb := fun h (hh : 1 ≤ h ∧ h ≤ k) => few_bound (pag_less HP.out hh)
            have HRAT := Lib.hid hrat
            have HB := Lib.hid hb
            clear hrat hb
            rcases hfour with rfl | rfl | rfl | rfl
            all_goals
              go_wp2_with fail
              go_loopw [15] (fun z wr => ∃ h : Int, 1 ≤ h ∧ h ≤ k + 1 ∧ z = .int .i64 h ∧ Chg No w3 wr) (fun z _ => (k + 1 - intOf z).toNat)
              case atStart => exact ⟨1, by omega, by omega, rfl, hch⟩
              case round =>
                clear hch
                obtain ⟨h, hh1, hh2, rfl, hch⟩ := hrel
                by_cases hle : h ≤ k
                · have hcmp0 := HRAT.out h ⟨hh1, hle⟩
                  rw [HPL.out] at hcmp0
                  have hfb := HB.out h ⟨hh1, hle⟩
                  have hph := pag_less HP.out ⟨hh1, hle⟩
                  obtain ⟨fl, hfl⟩ : ∃ fl, fewN h m l = fl := ⟨_, rfl⟩
                  rw [hfl] at hcmp0 hfb
                  have hfe : fewV h m l = fl := by unfold fewV; rw [hph]; exact hfl
                  have HFL := Lib.hid hfe
                  have HPH := Lib.hid hph
                  clear hfl hfe hph
                  have hb1 : -36 ≤ (k - h + 1) * ((pl.length : Int) - k) ∧ (k - h + 1) * ((pl.length : Int) - k) ≤ 372 := by
                    obtain ⟨c, hc⟩ : ∃ c, k - h + 1 = c := ⟨_, rfl⟩
                    have hcc : c = 1 ∨ c = 2 ∨ c = 3 ∨ c = 4 ∨ c = 5 ∨ c = 6 := by omega
                    rw [hc]
                    rcases hcc with rfl | rfl | rfl | rfl | rfl | rfl <;> omega
                  have hb2 : 0 ≤ k * fl ∧ k * fl ≤ 360 := by
                    have hcc : k = 1 ∨ k = 2 ∨ k = 3 ∨ k = 4 ∨ k = 5 ∨ k = 6 := by omega
                    rcases hcc with rfl | rfl | rfl | rfl | rfl | rfl <;> omega
                  have hwa : IntKind.i64.wrap (k - h) = k - h := IntWalk.i64_in _ (by omega)
                  have hwb : IntKind.i64.wrap (k - h + 1) = k - h + 1 := IntWalk.i64_in _ (by omega)
                  have hwc : IntKind.i64.wrap ((pl.length : Int) - k) = (pl.length : Int) - k := IntWalk.i64_in _ (by omega)
                  have hwd : IntKind.i64.wrap ((k - h + 1) * ((pl.length : Int) - k)) = (k - h + 1) * ((pl.length : Int) - k) := IntWalk.i64_in _ (by omega)
                  have hwe : IntKind.i64.wrap (k * fl) = k * fl := IntWalk.i64_in _ (by omega)
                  have hwf : IntKind.i64.wrap (h + 1) = h + 1 := IntWalk.i64_in _ (by omega)
                  have hcmp : ¬ (k * fl < (k - h + 1) * ((pl.length : Int) - k)) := by omega
                  clear hcmp0 hb1 hb2
                  go_wp2_with fail
                  refine (implFewest_any h m rv l _ (hr.keep hch)).mono ?_
                  rintro e w7 ⟨_, _, rfl, rfl, rfl, k7⟩
                  rw [HFL.out, HPH.out]
                  replace hch := hch.keep k7
                  go_wp2_with fail
                  go_round
                  case rel => exact ⟨h + 1, by omega, by omega, rfl, hch⟩
                  case measure => simp [intOf]; omega
                · clear HRAT HB
                  go_wp2_with fail
                  go_round
                  case rel => first | exact ⟨2, by omega, by omega, rfl, hch⟩ | exact ⟨3, by omega, by omega, rfl, hch⟩ | exact ⟨5, by omega, by omega, rfl, hch⟩ | exact ⟨7, by omega, by omega, rfl, hch⟩
                  case measure => simp [intOf]
          · have hp357 : p = 3 ∨ p = 5 ∨ p = 7 := by omega
            clear hfour
            rcases hp357 with rfl | rfl | rfl
            all_goals
              go_wp2_with fail
              go_round
              case rel => first | exact ⟨4, by omega, by omega, rfl, hch⟩ | exact ⟨6, by omega, by omega, rfl, hch⟩ | exact ⟨8, by omega, by omega, rfl, hch⟩
              case measure => simp [intOf]
        · have hp8' : p = 8 := by omega
          subst hp8'
          go_wp2_with fail
          go_ret
          exact ⟨rfl, kk3.keep hch⟩
end Go.Proofs.YtmfhlojmoehmiaaGreat

/- last order, stack distances, faults of CacheLRU: plain -/
namespace Go.Proofs.YtmfhlojmoehmiaaGreat

theorem snocRec {P : List Int → Prop} (nil : P []) (snoc : ∀ l x, P l → P (l ++ [x])) (l : List Int) : P l := by
  have : ∀ (n : Nat) (l : List Int), l.length = n → P l := by
    intro n
    induction n with
    | zero => intro l h; rw [List.length_eq_zero_iff.1 h]; exact nil
    | succ n ih =>
      intro l h
      have hne : l ≠ [] := fun e => by rw [e] at h; cases h
      rw [← List.dropLast_concat_getLast hne]
      exact snoc _ _ (ih _ (by rw [List.length_dropLast, h]; rfl))
  exact this l.length l rfl
/-- the items in the order of their last requests, the last one first -/
def ordL (l : List Int) : List Int := l.foldl (fun o x => x :: o.erase x) []
theorem ordL_snoc (l : List Int) (x : Int) : ordL (l ++ [x]) = x :: (ordL l).erase x := by
  unfold ordL; rw [List.foldl_append]; rfl
theorem ordL_mem (l : List Int) (y : Int) : y ∈ ordL l ↔ y ∈ l := by
  induction l using snocRec with
  | nil => exact Iff.rfl
  | snoc l x ih =>
    rw [ordL_snoc, List.mem_cons, List.mem_append, List.mem_singleton]
    by_cases e : y = x
    · simp [e]
    · rw [List.mem_erase_of_ne e, ih]
      exact ⟨fun h => h.elim (fun h => absurd h e) .inl, fun h => h.elim .inr (fun h => absurd h e)⟩
theorem ordL_nod (l : List Int) : (ordL l).Nodup := by
  induction l using snocRec with
  | nil => exact List.Pairwise.nil
  | snoc l x ih =>
    rw [ordL_snoc, List.nodup_cons]
    exact ⟨fun h => (List.Nodup.mem_erase_iff ih).1 h |>.1 rfl, ih.erase x⟩
theorem len_diff {a b : List Int} (ha : a.Nodup) (h : ∀ x, x ∈ a ↔ x ∈ b) : a.length = (diffL b).length := by
  have e : diffL a = diffL b := up_ext (diffL_up a) (diffL_up b) (fun x => by rw [diffL_mem, diffL_mem]; exact h x)
  rw [← e]
  have : ∀ (l acc : List Int), l.Nodup → (∀ x ∈ l, x ∉ acc) → (l.foldl putL acc).length = acc.length + l.length := by
    intro l
    induction l with
    | nil => intro acc _ _; rfl
    | cons a l ih =>
      intro acc hn h
      rw [List.nodup_cons] at hn
      have hnew : ∀ {l : List Int} {n : Int}, n ∉ l → (putL l n).length = l.length + 1 := by
        intro l n hn
        induction l with
        | nil => rfl
        | cons a l ih =>
          rw [List.mem_cons, not_or] at hn
          unfold putL
          split
          · rw [List.length_cons, ih hn.2, List.length_cons]
          · rw [if_neg (fun e => hn.1 e.symm)]; rfl
      rw [List.foldl_cons, ih (putL acc a) hn.2 (fun x hx hm => by
        rcases putL_mem.1 hm with hm | rfl
        · exact h x (List.mem_cons_of_mem _ hx) hm
        · exact hn.1 hx), hnew (h a (List.mem_cons_self ..)), List.length_cons]
      omega
  have h2 := this a [] ha (fun x _ hm => by cases hm)
  unfold diffL
  simpa using h2.symm

/-- a CacheLRU that is never full holds the last order -/
theorem lru_big (M : Nat) : ∀ (l : List Int), l.length < M → (runC (newC 1 (M : Int)) l).pages = ordL l ∧ (runC (newC 1 (M : Int)) l).pol = 1 ∧ (runC (newC 1 (M : Int)) l).size = (M : Int) := by
  intro l
  induction l using snocRec with
  | nil => exact fun _ => ⟨rfl, rfl, rfl⟩
  | snoc l x ih =>
    intro hl
    rw [List.length_append, List.length_singleton] at hl
    obtain ⟨h1, h2, h3⟩ := ih (by omega)
    have e : runC (newC 1 (M : Int)) (l ++ [x]) = stepC (runC (newC 1 (M : Int)) l) x := by unfold runC; rw [List.foldl_append]; rfl
    have hc := stepC_const (runC (newC 1 (M : Int)) l) x
    rw [e]
    refine ⟨?_, by rw [hc.1, h2], by rw [hc.2, h3]⟩
    rw [step_1 _ x h2, h1, ordL_snoc, h3]
    have hlen : (ordL l).length ≤ l.length := by
      rw [len_diff (ordL_nod l) (fun y => ordL_mem l y)]
      exact diffL_len_le l
    split
    · rfl
    · rename_i hx
      rw [if_neg (by omega), List.erase_of_not_mem hx]
theorem lru_take (K : Nat) (hK : 1 ≤ K) (l : List Int) : ∀ d : Nat, (runC (newC 1 (K : Int)) l).pages = (runC (newC 1 ((K + d : Nat) : Int)) l).pages.take K := by
  intro d
  induction d with
  | zero =>
    have h0 : Lru K (newC 1 (K : Int)) (newC 1 ((K : Int) + 1)) := ⟨rfl, rfl, rfl, rfl, by omega, by simp [newC], by simp [newC], by simp [newC]⟩
    have h := (lru_run l h0).pre
    rw [Nat.add_zero, List.take_of_length_le]
    rw [h, List.length_take]
    omega
  | succ d ih =>
    have h0 : Lru (K + d) (newC 1 ((K + d : Nat) : Int)) (newC 1 (((K + d : Nat) : Int) + 1)) := ⟨rfl, rfl, rfl, rfl, by omega, by simp [newC], by simp [newC], by simp [newC]⟩
    have h := (lru_run l h0).pre
    rw [ih, h, List.take_take, Nat.min_eq_left (by omega)]
    rfl
/-- what a CacheLRU holds: the first of the last order -/
theorem lru_pages {k : Int} (hk : 1 ≤ k) (l : List Int) : (runC (newC 1 k) l).pages = (ordL l).take k.toNat := by
  obtain ⟨K, rfl⟩ := Int.eq_ofNat_of_zero_le (show 0 ≤ k by omega)
  rw [lru_take K (by omega) l (l.length + 1), Int.toNat_natCast]
  rw [(lru_big (K + (l.length + 1)) l (by omega)).1]

/-- the stack distance of place i, 0 for a first request -/
def distL (l : List Int) (i : Nat) : Int := if l.getD i 0 ∈ l.take i then ((ordL (l.take i)).idxOf (l.getD i 0) : Int) + 1 else 0
theorem ord_split (A : List Int) (x : Int) (B : List Int) : x ∉ B → ∃ R, ordL (A ++ x :: B) = ordL B ++ x :: R := by
  induction B using snocRec with
  | nil => exact fun _ => ⟨(ordL A).erase x, by rw [ordL_snoc]; rfl⟩
  | snoc B y ih =>
    intro hx
    rw [List.mem_append, List.mem_singleton, not_or] at hx
    obtain ⟨R, hR⟩ := ih hx.1
    have e : A ++ x :: (B ++ [y]) = (A ++ x :: B) ++ [y] := by simp
    rw [e, ordL_snoc, hR, ordL_snoc, List.erase_append]
    by_cases hy : y ∈ ordL B
    · rw [if_pos hy]
      exact ⟨R, rfl⟩
    · rw [if_neg hy, List.erase_of_not_mem hy]
      exact ⟨R.erase y, by rw [List.erase_cons_tail (by simpa using hx.2)]; rfl⟩
theorem dist_at {l : List Int} {i j : Nat} (hi : i < l.length) (hj : j < i) (he : l.getD j 0 = l.getD i 0) (hno : ∀ q, j < q → q < i → l.getD q 0 ≠ l.getD i 0) :
    distL l i = ((diffL ((l.take i).drop j)).length : Int) := by
  obtain ⟨x, hx⟩ : ∃ x, l.getD i 0 = x := ⟨_, rfl⟩
  rw [hx] at he hno
  have hjl : j < (l.take i).length := by rw [List.length_take]; omega
  have hd : (l.take i).drop j = x :: (l.take i).drop (j + 1) := by
    rw [List.drop_eq_getElem_cons hjl]
    congr 1
    rw [List.getElem_take, ← he, List.getD_eq_getElem?_getD, List.getElem?_eq_getElem (by omega : j < l.length)]
    rfl
  have hB : x ∉ (l.take i).drop (j + 1) := fun h => by
    obtain ⟨q, hq, hqe⟩ := List.mem_iff_getElem.1 h
    rw [List.length_drop, List.length_take] at hq
    refine hno (j + 1 + q) (by omega) (by omega) ?_
    rw [List.getElem_drop, List.getElem_take] at hqe
    rw [List.getD_eq_getElem?_getD, List.getElem?_eq_getElem (by omega : j + 1 + q < l.length)]
    exact hqe
  have hsp : l.take i = (l.take i).take j ++ x :: (l.take i).drop (j + 1) := by
    conv => lhs; rw [← List.take_append_drop j (l.take i), hd]
  obtain ⟨B, hBB⟩ : ∃ B, (l.take i).drop (j + 1) = B := ⟨_, rfl⟩
  rw [hBB] at hd hB hsp
  obtain ⟨R, hR⟩ := ord_split ((l.take i).take j) x B hB
  have hxo : x ∉ ordL B := fun h => hB ((ordL_mem B x).1 h)
  have hlen : (diffL (x :: B)).length = (ordL B).length + 1 := by
    rw [← len_diff (a := x :: ordL B) (b := x :: B) (List.nodup_cons.2 ⟨hxo, ordL_nod B⟩) (fun y => by rw [List.mem_cons, List.mem_cons, ordL_mem])]
    rfl
  unfold distL
  rw [hx, hd, hlen, if_pos (by rw [hsp]; simp)]
  rw [hsp, hR, List.idxOf_append, if_neg hxo]
  simp
theorem dist_zero {l : List Int} {i : Nat} (hno : ∀ q, q < i → l.getD q 0 ≠ l.getD i 0) (hi : i < l.length) : distL l i = 0 := by
  unfold distL
  rw [if_neg]
  intro h
  obtain ⟨q, hq, hqe⟩ := List.mem_iff_getElem.1 h
  rw [List.length_take] at hq
  refine hno q (by omega) ?_
  rw [List.getElem_take] at hqe
  rw [← hqe, List.getD_eq_getElem?_getD, List.getElem?_eq_getElem (by omega : q < l.length)]
  rfl
theorem mem_take_idx {O : List Int} {x : Int} {K : Nat} : x ∈ O.take K ↔ x ∈ O ∧ O.idxOf x < K := by
  have hO := List.take_append_drop K O
  constructor
  · intro h
    have h1 : O.idxOf x = (O.take K).idxOf x := by
      conv => lhs; rw [← hO]
      rw [List.idxOf_append, if_pos h]
    have h2 := List.idxOf_lt_length_of_mem h
    rw [List.length_take] at h2
    exact ⟨List.mem_of_mem_take h, by omega⟩
  · rintro ⟨h, hlt⟩
    have hl := List.idxOf_lt_length_of_mem h
    have e : O[O.idxOf x] = x := List.getElem_idxOf hl
    rw [← e]
    exact List.mem_iff_getElem.2 ⟨O.idxOf x, by rw [List.length_take]; omega, by rw [List.getElem_take]⟩
theorem lru_hit {k : Int} (hk : 1 ≤ k) (l : List Int) (i : Nat) : hasB (runC (newC 1 k) (l.take i)).pages (l.getD i 0) = !(decide (distL l i = 0 ∨ k < distL l i)) := by
  rw [lru_pages hk, Bool.eq_iff_iff, hasB_true, mem_take_idx, ordL_mem]
  unfold distL
  by_cases h : l.getD i 0 ∈ l.take i
  · rw [if_pos h]
    simp only [h, true_and, Bool.not_eq_true', decide_eq_false_iff_not]
    omega
  · rw [if_neg h]
    exact ⟨fun h2 => absurd h2.1 h, fun h2 => by simp at h2⟩
/-- the faults of a CacheLRU among the first places -/
def missN (l : List Int) (k : Int) : Nat → Nat
  | 0 => 0
  | j + 1 => missN l k j + (if distL l j = 0 ∨ k < distL l j then 1 else 0)
theorem lru_places {k : Int} (hk : 1 ≤ k) (l : List Int) (j : Nat) : (placesTo (newC 1 k) l j).length = missN l k j := by
  induction j with
  | zero => rfl
  | succ j ih =>
    unfold placesTo missN
    rw [lru_hit hk]
    by_cases h : distL l j = 0 ∨ k < distL l j
    · rw [if_neg (by simp [h]), if_pos h, List.length_append, ih]; rfl
    · rw [if_pos (by simp [h]), if_neg h, ih]; rfl
end Go.Proofs.YtmfhlojmoehmiaaGreat

/- FaultyPart, both sides, and its law -/
namespace Go.Proofs.YtmfhlojmoehmiaaGreat
open Go.RowKit

/-- how many numbers lie between two -/
def betw (pl : List Int) (a b : Int) : Nat := (pl.filter fun x => inB x a b).length
theorem betw_snoc (pl : List Int) (a b : Int) (k : Nat) (h : k < pl.length) : betw (pl.take (k + 1)) a b = if inB pl[k] a b then betw (pl.take k) a b + 1 else betw (pl.take k) a b := by
  rw [List.take_succ_eq_append_getElem h, betw, List.filter_append]
  cases hb : inB pl[k] a b <;> simp [betw, hb]
theorem betw_le (pl : List Int) (a b : Int) : betw pl a b ≤ pl.length := List.length_filter_le _ _
/-- from a last place back: the first beginning with too many faults -/
def scanF (k : Int) (l pl : List Int) (j : Nat) : Nat → Option Nat
  | 0 => none
  | m + 1 => if ((diffL ((l.take (j + 1)).drop m)).length : Int) ≤ k then (if k < (betw pl m j : Int) then some m else scanF k l pl j m) else none
/-- the first place at which there is one -/
def firstS (f : Nat → Option Nat) : Nat → Option (Nat × Nat)
  | 0 => none
  | n + 1 => match firstS f n with
    | some x => some x
    | none => match f n with
      | some m => some (m, n)
      | none => none
def NoS (f : Nat → Option Nat) (j : Nat) : Prop := ∀ i, i < j → f i = none
theorem NoS.zero (f : Nat → Option Nat) : NoS f 0 := fun i h => absurd h (Nat.not_lt_zero i)
theorem NoS.succ {f : Nat → Option Nat} {j : Nat} (h : NoS f j) (hj : f j = none) : NoS f (j + 1) := fun i hi => by
  by_cases e : i = j
  · rw [e]; exact hj
  · exact h i (by omega)
theorem firstS_none {f : Nat → Option Nat} {n : Nat} (h : NoS f n) : firstS f n = none := by
  induction n with
  | zero => rfl
  | succ n ih => simp [firstS, ih (fun i hi => h i (by omega)), h n (by omega)]
theorem firstS_hit {f : Nat → Option Nat} {n j m : Nat} (h : NoS f j) (hj : j < n) (hf : f j = some m) : firstS f n = some (m, j) := by
  induction n with
  | zero => omega
  | succ n ih =>
    by_cases e : j = n
    · subst e; simp [firstS, firstS_none h, hf]
    · simp [firstS, ih (by omega)]
def faultyF (p k : Int) (l : List Int) (j : Nat) : Option Nat := scanF k l (places (newC p k) l) j (j + 1)
def faultyV (n p k : Int) (l : List Int) : Option (Nat × Nat) := if askedB n p k l then firstS (faultyF p k l) l.length else none
def prA : Option (Nat × Nat) → Int
  | some x => (x.1 : Int)
  | none => 0
def prB : Option (Nat × Nat) → Int
  | some x => (x.2 : Int)
  | none => 0

set_option maxHeartbeats 400000 in
theorem l4Between_any (A : Nat → Prop) (v : Value) (l : List Int) (x y : Int) (w : World) (h : RI A w v l) :
    Calls Tryz.prog 118 #[v, .int .i64 x, .int .i64 y] w fun e w' => e = .returned (.int .i64 (betw l x y : Int)) ∧ w = w' := by
  have hL := h.len
  obtain ⟨a, cap, rfl, hcap, hmax, hlen, _, hc⟩ := h
  go_enter Tryz.func118, Tryz.ntmps118
  go_wp2
  go_loop [7, 8] (fun s i => ∃ k : Nat, k ≤ l.length ∧ i = .int .i64 k ∧ s = .int .i64 (betw (l.take k) x y : Int)) (fun _ i => l.length - (intOf i).toNat)
  case atStart => exact ⟨0, Nat.zero_le _, rfl, rfl⟩
  case round =>
    obtain ⟨k, hk, rfl, rfl⟩ := hrel
    by_cases hlt : k < l.length
    · obtain ⟨b, off, rfl, _, _, hcell⟩ := hc (by intro e; simp [e] at hlt)
      have hck := hcell k hlt
      have hsn := betw_snoc l x y k hlt
      have hgy : l.getD k 0 = l[k] := by rw [List.getD_eq_getElem?_getD, List.getElem?_eq_getElem hlt]; rfl
      obtain ⟨z, hz⟩ : ∃ z, l[k] = z := ⟨_, rfl⟩
      rw [hgy, hz] at hck
      rw [hz] at hsn
      obtain ⟨m, hm⟩ : ∃ m, betw (l.take k) x y = m := ⟨_, rfl⟩
      have hml : m ≤ k := by rw [← hm]; have := betw_le (l.take k) x y; rw [List.length_take] at this; omega
      rw [hm] at hsn ⊢
      have HS := Lib.hid hsn
      have hk0 : (0 : Int) ≤ (k : Int) := Int.natCast_nonneg _
      have hm0 : (0 : Int) ≤ (m : Int) := Int.natCast_nonneg _
      have hw2 : IntKind.i64.wrap ((m : Int) + 1) = (m : Int) + 1 := IntWalk.i64_in _ (by omega)
      clear hcell hc hsn hgy hz hm
      cases hin : inB z x y
      · have HSS : Hid (betw (l.take (k + 1)) x y = m) := Lib.hid (by rw [HS.out, hin]; rfl)
        go_wp2_with (go_at_call 128; refine (l1In_any _ _ _ _).mono ?_; rintro e w' ⟨rfl, rfl⟩)
        go_round
        case rel => exact ⟨k + 1, by omega, by go_num, by rw [HSS.out]⟩
        case measure => simp [intOf]; omega
      · have HSS : Hid (betw (l.take (k + 1)) x y = m + 1) := Lib.hid (by rw [HS.out, hin]; rfl)
        go_wp2_with (go_at_call 128; refine (l1In_any _ _ _ _).mono ?_; rintro e w' ⟨rfl, rfl⟩)
        go_round
        case rel => exact ⟨k + 1, by omega, by go_num, by rw [HSS.out]; go_num⟩
        case measure => simp [intOf]; omega
    · have hkl : k = l.length := by omega
      subst hkl
      rw [List.take_length]
      go_wp2
      go_ret
      exact ⟨rfl, rfl⟩

set_option maxRecDepth 100000 in
set_option maxHeartbeats 2000000 in
theorem specFaultyPart_any (n p k : Int) (v : Value) (l : List Int) (w : World) (hv : RI No w v l) :
    Calls Tryz.prog 52 #[.int .i64 n, .int .i64 p, .int .i64 k, v] w (Ret2 fun v0 v1 w' => v0 = .agg #[.int .i64 (prA (faultyV n p k l)), .int .i64 (prB (faultyV n p k l))] ∧ v1 = .bool (faultyV n p k l).isSome ∧ Chg No w w') := by
  have b0 := BoxN.new w #[.int .i64 0, .int .i64 0] 80
  have kk := (Chg.refl No w).alloc (.cells #[.int .i64 0, .int .i64 0] 80)
  have hv1 := hv.keep kk
  cases hh : askedB n p k l
  · have HA : Hid (faultyV n p k l = none) := Lib.hid (by unfold faultyV; rw [hh]; rfl)
    have HH := Lib.hid hh
    clear hh
    go_enter Tryz.func52, Tryz.ntmps52
    go_wp2_with fail
    refine (l4Asked_any No _ l n p k _ hv1).mono ?_
    rintro e w1 ⟨rfl, rfl⟩
    rw [show (inB p 1 7 && inB k 1 6 && (inB n 1 8 && decide (l.length ≤ 60) && belowB n l)) = false from HH.out]
    have c00 := b0.c 0 _ rfl
    have c01 := b0.c 1 _ rfl
    have f0 := b0.fr 0
    have f1 := b0.fr 1
    go_wp2_with fail
    exact bodyPost_ret (v := .tuple #[.agg #[.int .i64 0, .int .i64 0], .bool false]) (by simp [results, Tryz.results52, go_sem, *]) rfl ⟨_, _, rfl, by rw [HA.out]; rfl, by rw [HA.out]; rfl, by first | exact kk | exact (kk.setCell (fun h => absurd h (Nat.lt_irrefl _)) _).setCell (fun h => absurd h (Nat.lt_irrefl _)) _⟩
  · obtain ⟨pl, hpl⟩ : ∃ pl, places (newC p k) l = pl := ⟨_, rfl⟩
    have hpll : pl.length ≤ l.length := by rw [← hpl]; exact placesTo_le _ _ _
    have HA : Hid (faultyV n p k l = firstS (fun j => scanF k l pl j (j + 1)) l.length) := Lib.hid (by unfold faultyV; rw [hh, ← hpl]; rfl)
    have hok := askedB_ok hh
    have hkb : (1 ≤ k ∧ k ≤ 6) ∧ l.length ≤ 60 := by
      simp only [askedB, Bool.and_eq_true, inB_iff, decide_eq_true_eq] at hh
      exact ⟨hh.1.2, hh.2.1.2⟩
    obtain ⟨⟨hk1, hk6⟩, hl60⟩ := hkb
    have HH := Lib.hid hh
    have HPL := Lib.hid hpl
    clear hh hpl
    obtain ⟨la, lc, rfl, hlc1, hlc2, hl44, hla0, hcv⟩ := id hv
    clear hcv hla0
    go_enter Tryz.func52, Tryz.ntmps52
    go_wp2_with fail
    refine (l4Asked_any No _ l n p k _ hv1).mono ?_
    rintro e w1 ⟨rfl, rfl⟩
    rw [show (inB p 1 7 && inB k 1 6 && (inB n 1 8 && decide (l.length ≤ 60) && belowB n l)) = true from HH.out]
    go_wp2_with fail
    refine (l4New_any p k _).mono ?_
    rintro e w3 ⟨v1, rfl, hrc, k1⟩
    have hrcA := hrc No (Bd.no _)
    have kk := kk.keep k1
    have b0 := b0.keep k1
    have hv3 := hv.keep kk
    go_wp2_with fail
    refine (l4Places_any No v1 _ (newC p k) l w3 hrcA hv3 (Bd.no _) hok).mono ?_
    rintro e w2 ⟨v2, rfl, o2, k2⟩
    rw [HPL.out] at o2
    have kk := kk.keep k2
    have b0 := b0.keep k2
    have hp2 := o2.readNo
    obtain ⟨pa, pc, rfl, _⟩ := o2.view
    have hl0 : (0 : Int) ≤ (l.length : Int) := Int.natCast_nonneg _
    clear hrc hrcA
    go_wp2_with fail
    go_loopw [11] (fun i wr => ∃ j : Nat, j ≤ l.length ∧ i = .int .i64 j ∧ NoS (fun j => scanF k l pl j (j + 1)) j ∧ Chg No w2 wr) (fun i _ => l.length - (intOf i).toNat)
    case atStart => exact ⟨0, Nat.zero_le _, rfl, NoS.zero _, Chg.refl _ _⟩
    case round =>
      obtain ⟨j, hj, rfl, hno, hch⟩ := hrel
      have hj0 : (0 : Int) ≤ (j : Int) := Int.natCast_nonneg _
      by_cases hlt : j < l.length
      · have hj1 : (j : Int) < (l.length : Int) := by omega
        have hw1 : IntKind.i64.wrap ((j : Int) + 1) = (j : Int) + 1 := IntWalk.i64_in _ (by omega)
        obtain ⟨wo, hwo⟩ : ∃ wo : World, wr = wo := ⟨_, rfl⟩
        subst hwo
        go_wp2_with fail
        go_loopw [12] (fun i wr => ∃ (m : Nat) (fi : Int), m ≤ j + 1 ∧ i = .int .i64 fi ∧ Hid (fi = (m : Int) - 1) ∧ Hid (scanF k l pl j (j + 1) = scanF k l pl j m) ∧ Chg No w2 wr) (fun i _ => (intOf i + 1).toNat)
        case atStart => exact ⟨j + 1, (j : Int), Nat.le_refl _, rfl, Lib.hid (by omega), Lib.hid rfl, hch⟩
        case round =>
          obtain ⟨m, fi, hm, rfl, HFI, HSC, hch⟩ := hrel
          cases m with
          | zero =>
            have e := HFI.out
            obtain rfl : fi = -1 := by omega
            clear e
            have HN : Hid (scanF k l pl j (j + 1) = none) := Lib.hid (by rw [HSC.out]; rfl)
            go_wp2_with fail
            go_round
            case rel => exact ⟨j + 1, hlt, by go_num, hno.succ HN.out, hch⟩
            case measure => simp [intOf]; omega
          | succ m =>
            have e := HFI.out
            obtain rfl : fi = (m : Int) := by omega
            clear e
            have hm0 : (0 : Int) ≤ (m : Int) := Int.natCast_nonneg _
            have hm1 : (m : Int) ≤ (j : Int) := by omega
            have hwm : IntKind.i64.wrap ((m : Int) - 1) = (m : Int) - 1 := IntWalk.i64_in _ (by omega)
            obtain ⟨x, hx, hRx⟩ := ((hv.keep kk).keep hch).mid m (j + 1) (m : Int) ((j : Int) + 1) rfl (by omega) (by omega) (by omega)
            obtain ⟨d, hd⟩ : ∃ d, diffL ((l.take (j + 1)).drop m) = d := ⟨_, rfl⟩
            have hsc := HSC.out
            simp only [scanF] at hsc
            have hsc0 : scanF k l pl j (m + 1) = if (d.length : Int) ≤ k then (if k < (betw pl m j : Int) then some m else scanF k l pl j m) else none := by rw [← hd]; rfl
            rw [HSC.out.symm] at hsc0
            have HS0 := Lib.hid hsc0
            have HD := Lib.hid hd
            clear hsc hsc0 hd
            go_wp2_with fail
            refine (l3Different_any No x _ _ hRx).mono ?_
            rintro e w4 ⟨v4, rfl, o4, k4⟩
            rw [HD.out] at o4
            obtain ⟨a4, c4, rfl, _⟩ := o4.view
            have hch4 := hch.keep k4
            by_cases hle : (d.length : Int) ≤ k
            · go_wp2_with fail
              refine (l4Between_any No _ pl (m : Int) (j : Int) w4 (hp2.keep hch4)).mono ?_
              rintro e w5 ⟨rfl, rfl⟩
              obtain ⟨bt, hbt⟩ : ∃ bt, betw pl (m : Int) (j : Int) = bt := ⟨_, rfl⟩
              have hbl : bt ≤ pl.length := by rw [← hbt]; exact betw_le _ _ _
              have hs := HS0.out
              rw [if_pos hle, hbt] at hs
              rw [hbt]
              by_cases hgt : k < (bt : Int)
              · rw [if_pos hgt] at hs
                have HS := Lib.hid hs
                have b5 := b0.keep hch4
                have kk5 := kk.keep hch4
                have c00 := b5.c 0 _ rfl
                have c01 := b5.c 1 _ rfl
                have f0 := b5.fr 0
                have f1 := b5.fr 1
                clear hs hbt
                go_wp2_with fail
                have e := firstS_hit (n := l.length) hno hlt HS.out
                exact bodyPost_ret (v := .tuple #[.agg #[.int .i64 (m : Int), .int .i64 (j : Int)], .bool true]) (by simp [results, Tryz.results52, go_sem, *]) rfl ⟨_, _, rfl, by rw [HA.out, e]; rfl, by rw [HA.out, e]; rfl, (kk5.setCell (fun h => absurd h (Nat.lt_irrefl _)) _).setCell (fun h => absurd h (Nat.lt_irrefl _)) _⟩
              · rw [if_neg hgt] at hs
                have HS := Lib.hid hs
                clear hs hbt
                go_wp2_with fail
                go_round
                case rel => exact ⟨m, (m : Int) - 1, by omega, rfl, Lib.hid rfl, Lib.hid HS.out, hch4⟩
                case measure => simp [intOf]
            · have HN : Hid (scanF k l pl j (j + 1) = none) := Lib.hid (by rw [HS0.out, if_neg hle])
              go_wp2_with fail
              go_round
              case rel => exact ⟨j + 1, hlt, by go_num, hno.succ HN.out, hch4⟩
              case measure => simp [intOf]; omega
      · have hj' : j = l.length := by omega
        subst hj'
        have e := firstS_none (n := l.length) hno
        have HA : Hid (faultyV n p k l = none) := Lib.hid (by rw [HA.out, e])
        have kk := kk.keep hch
        have b0 := b0.keep hch
        clear e
        have c00 := b0.c 0 _ rfl
        have c01 := b0.c 1 _ rfl
        have f0 := b0.fr 0
        have f1 := b0.fr 1
        go_wp2_with fail
        exact bodyPost_ret (v := .tuple #[.agg #[.int .i64 0, .int .i64 0], .bool false]) (by simp [results, Tryz.results52, go_sem, *]) rfl ⟨_, _, rfl, by rw [HA.out]; rfl, by rw [HA.out]; rfl, by first | exact kk | exact (kk.setCell (fun h => absurd h (Nat.lt_irrefl _)) _).setCell (fun h => absurd h (Nat.lt_irrefl _)) _⟩
end Go.Proofs.YtmfhlojmoehmiaaGreat

/- phases: what CacheLRU, CacheFIFO and CacheFlush do in them (plain) -/
namespace Go.Proofs.YtmfhlojmoehmiaaGreat

theorem nfC_append (l : List Int) : ∀ (c : Ca) (m : List Int), nfC c (l ++ m) = nfC c l + nfC (runC c l) m := by
  induction l with
  | nil => intro c m; simp [nfC, runC]
  | cons x l ih =>
    intro c m
    show (if hasB c.pages x then 0 else 1) + nfC (stepC c x) (l ++ m) = (if hasB c.pages x then 0 else 1) + nfC (stepC c x) l + _
    rw [ih]
    have : runC c (x :: l) = runC (stepC c x) l := rfl
    rw [this]; omega
theorem runC_append (c : Ca) (l m : List Int) : runC c (l ++ m) = runC (runC c l) m := by unfold runC; rw [List.foldl_append]
/-- the faults in a part -/
def inW (c : Ca) (l : List Int) (a b : Nat) : Nat := nfC (runC c (l.take a)) ((l.take b).drop a)
theorem inW_same (c : Ca) (l : List Int) (a : Nat) : inW c l a a = 0 := by
  unfold inW
  rw [List.drop_of_length_le (by rw [List.length_take]; omega)]; rfl
theorem inW_succ (c : Ca) (l : List Int) (a b : Nat) (hab : a ≤ b) (hb : b < l.length) : inW c l a (b + 1) = inW c l a b + (if hasB (runC c (l.take b)).pages (l.getD b 0) then 0 else 1) := by
  unfold inW
  rw [List.take_succ_eq_append_getElem hb, List.drop_append_of_le_length (by rw [List.length_take]; omega), nfC_append, ← runC_append]
  have e1 : l.take a ++ (l.take b).drop a = l.take b := by
    have : l.take a = (l.take b).take a := by rw [List.take_take, Nat.min_eq_left hab]
    rw [this, List.take_append_drop]
  rw [e1]
  have e2 : l.getD b 0 = l[b] := by rw [List.getD_eq_getElem?_getD, List.getElem?_eq_getElem hb]; rfl
  rw [e2]
  rfl
theorem betw_places (c : Ca) (l : List Int) (a b : Nat) (hab : a ≤ b) : ∀ n, b ≤ n → n ≤ l.length → (placesTo c l n).countP (fun x => inB x (a : Int) ((b : Int) - 1)) = inW c l a b := by
  have up : ∀ d, a + d ≤ b → b ≤ l.length → (placesTo c l (a + d)).countP (fun x => inB x (a : Int) ((b : Int) - 1)) = inW c l a (a + d) := by
    intro d
    induction d with
    | zero =>
      intro _ hbl
      rw [Nat.add_zero, inW_same]
      have : ∀ n, n ≤ a → (placesTo c l n).countP (fun x => inB x (a : Int) ((b : Int) - 1)) = 0 := by
        intro n
        induction n with
        | zero => intro _; rfl
        | succ n ih =>
          intro hn
          unfold placesTo
          split
          · exact ih (by omega)
          · rw [List.countP_append, ih (by omega)]
            have : inB (n : Int) (a : Int) ((b : Int) - 1) = false := by
              cases h : inB (n : Int) (a : Int) ((b : Int) - 1)
              · rfl
              · rw [inB_iff] at h; omega
            simp [this]
      exact this a (Nat.le_refl _)
    | succ d ih =>
      intro hd hbl
      have ih := ih (by omega) hbl
      rw [show a + (d + 1) = (a + d) + 1 by omega, inW_succ c l a (a + d) (by omega) (by omega)]
      unfold placesTo
      cases h : hasB (runC c (l.take (a + d))).pages (l.getD (a + d) 0)
      · rw [if_neg (by simp), if_neg (by simp), List.countP_append, ih]
        have : inB ((a : Int) + (d : Int)) (a : Int) ((b : Int) - 1) = true := inB_iff.2 (by omega)
        simp [this]
      · rw [if_pos rfl, if_pos rfl]; exact ih
  intro n hbn hnl
  induction n with
  | zero =>
    have : b = 0 := by omega
    subst this
    have : a = 0 := by omega
    subst this
    rw [inW_same]; rfl
  | succ n ih =>
    by_cases e : b = n + 1
    · have := up (b - a) (by omega) (by omega)
      rw [show a + (b - a) = b by omega] at this
      rw [← e]; exact this
    · have := ih (by omega) (by omega)
      unfold placesTo
      split
      · exact this
      · rw [List.countP_append, this]
        have : inB (n : Int) (a : Int) ((b : Int) - 1) = false := by
          cases h : inB (n : Int) (a : Int) ((b : Int) - 1)
          · rfl
          · rw [inB_iff] at h; omega
        simp [this]
theorem betw_count (pl : List Int) (a b : Int) : betw pl a b = pl.countP (fun x => inB x a b) := by unfold betw; rw [List.countP_eq_length_filter]

/-- few different ones: no new phase -/
theorem cnt_zero {K : Nat} (M : List Int) (hM : M.length ≤ K) (l : List Int) : ∀ D : List Int, D.Nodup → (∀ x ∈ D, x ∈ M) → (∀ x ∈ l, x ∈ M) → cntP K D l = 0 := by
  induction l with
  | nil => intro D _ _ _; rfl
  | cons x l ih =>
    intro D hD hDM hl
    unfold cntP
    have hx := hl x (List.mem_cons_self ..)
    have hl' : ∀ y ∈ l, y ∈ M := fun y hy => hl y (List.mem_cons_of_mem _ hy)
    by_cases hr : x ∈ D
    · rw [if_pos hr]; exact ih D hD hDM hl'
    · rw [if_neg hr]
      have hn : (x :: D).Nodup := List.nodup_cons.2 ⟨hr, hD⟩
      have hs : ∀ y ∈ x :: D, y ∈ M := fun y hy => by rcases List.mem_cons.1 hy with rfl | h; exact hx; exact hDM y h
      have := nodup_le hn hs
      simp only [List.length_cons] at this
      rw [if_pos (by omega)]
      exact ih _ hn hs hl'
theorem Cons.win {K : Nat} (hk : 0 < K) {P : Ca → List Int → List Int → Prop} (hP : Cons K P) {c : Ca} (h : P c [] []) (l : List Int) (hl : (diffL l).length ≤ K) : nfC c l ≤ K := by
  have h1 := hP.phases hk h l
  rw [cnt_zero (diffL l) hl l [] (by simp) (by simp) (fun x hx => diffL_mem.2 hx)] at h1
  omega

/-- what is known ahead of place j -/
def InvP (K : Nat) (P : Ca → List Int → List Int → Prop) (c : Ca) (l : List Int) (j : Nat) : Prop :=
  ∃ D F, P (runC c (l.take j)) D F ∧ D.Nodup ∧ F.Nodup ∧ (∀ y ∈ F, y ∈ D) ∧ D.length ≤ K ∧ (∀ x, x ∈ D ↔ x ∈ (l.take j).drop (startP (K : Int) l j)) ∧ F.length = inW c l (startP (K : Int) l j) j ∧
    (0 < j → cntP K [] l + 1 = (phF (K : Int) l j).length + cntP K D (l.drop j)) ∧ (j = 0 → D = [])
theorem win_snoc (l : List Int) (s j : Nat) (hs : s ≤ j) (hj : j < l.length) (x : Int) : x ∈ (l.take (j + 1)).drop s ↔ x ∈ (l.take j).drop s ∨ x = l[j] := by
  rw [List.take_succ_eq_append_getElem hj, List.drop_append_of_le_length (by rw [List.length_take]; omega), List.mem_append, List.mem_singleton]
theorem inv_all {K : Nat} (hk : 0 < K) {P : Ca → List Int → List Int → Prop} (hP : Cons K P) {c : Ca} (h0 : P c [] []) (l : List Int) : ∀ j, j ≤ l.length → InvP K P c l j := by
  intro j
  induction j with
  | zero =>
    intro _
    exact ⟨[], [], h0, by simp, by simp, by simp, by simp, by simp [startP], by rw [show startP (K : Int) l 0 = 0 from rfl, inW_same]; rfl, fun h => by omega, fun _ => rfl⟩
  | succ j ih =>
    intro hj
    obtain ⟨D, F, h1, h2, h3, h4, h5, h6, h7, h8, h9⟩ := ih (by omega)
    have hjl : j < l.length := by omega
    have hsl := startP_le (K : Int) l j
    obtain ⟨x, hx⟩ : ∃ x, l[j] = x := ⟨_, rfl⟩
    have hrun := runC_snoc c l j hjl
    rw [hx] at hrun
    have hgd : l.getD j 0 = x := by rw [List.getD_eq_getElem?_getD, List.getElem?_eq_getElem hjl]; exact hx
    have hdrop : l.drop j = x :: l.drop (j + 1) := by rw [List.drop_eq_getElem_cons hjl, hx]
    have hwin := fun y => win_snoc l (startP (K : Int) l j) j hsl hjl y
    have hIn := inW_succ c l (startP (K : Int) l j) j hsl hjl
    rw [hgd] at hIn
    have hdl : ∀ M : List Int, M.Nodup → (∀ y, y ∈ M ↔ y ∈ D ∨ y = x) → M.length = (diffL ((l.take (j + 1)).drop (startP (K : Int) l j))).length := fun M hM hm => len_diff hM (fun y => by rw [hm, hwin, h6, hx])
    have hmiss : ∀ F' : List Int, (x ∈ (runC c (l.take j)).pages → F' = F) → (x ∉ (runC c (l.take j)).pages → F' = x :: F) → F'.length = inW c l (startP (K : Int) l j) (j + 1) := fun F' e1 e2 => by
      rw [hIn]
      by_cases hm : x ∈ (runC c (l.take j)).pages
      · rw [e1 hm, if_pos (hasB_true.2 hm), h7]; rfl
      · rw [e2 hm, if_neg (by rw [hasB_true]; exact hm), List.length_cons, h7]
    have hstart : ∀ F' : List Int, (x ∈ (runC c (l.take j)).pages → F' = []) → (x ∉ (runC c (l.take j)).pages → F' = [x]) → F'.length = inW c l j (j + 1) := fun F' e1 e2 => by
      rw [inW_succ c l j j (Nat.le_refl _) hjl, inW_same, hgd]
      by_cases hm : x ∈ (runC c (l.take j)).pages
      · rw [e1 hm, if_pos (hasB_true.2 hm)]; rfl
      · rw [e2 hm, if_neg (by rw [hasB_true]; exact hm)]; rfl
    have hphf := phF_succ (K : Int) l j
    have hsp := startP_succ (K : Int) l j
    have hw1 : ∀ y, y ∈ [x] ↔ y ∈ (l.take (j + 1)).drop j := fun y => by
      rw [win_snoc l j j (Nat.le_refl _) hjl y, List.drop_of_length_le (by rw [List.length_take]; omega), hx]; simp
    unfold InvP
    rw [hrun]
    by_cases hxD : x ∈ D
    · have hj0 : 0 < j := Nat.pos_of_ne_zero (fun e => by rw [h9 e] at hxD; cases hxD)
      have hnb : newB (K : Int) l j = false := by
        have := hdl D h2 (fun y => ⟨.inl, fun h => h.elim id (fun e => e ▸ hxD)⟩)
        unfold newB
        rw [← this]
        simp; omega
      rw [hnb] at hphf hsp
      simp only [Bool.false_eq_true, if_false] at hphf hsp
      obtain ⟨g1, g2⟩ := hP.old _ D F x h1 hxD h5 h2 h3 h4
      have hc : cntP K D (l.drop j) = cntP K D (l.drop (j + 1)) := by rw [hdrop, cntP, if_pos hxD]
      rw [hsp, hphf]
      by_cases hm : x ∈ (runC c (l.take j)).pages
      · exact ⟨D, F, g1 hm, h2, h3, h4, h5, fun y => by rw [hwin, hx, ← h6]; exact ⟨.inl, fun h => h.elim id (fun e => e ▸ hxD)⟩, hmiss F (fun _ => rfl) (fun e => absurd hm e), fun _ => by rw [← hc]; exact h8 hj0, fun h => by omega⟩
      · exact ⟨D, x :: F, (g2 hm).2, h2, List.nodup_cons.2 ⟨(g2 hm).1, h3⟩, fun y hy => by rcases List.mem_cons.1 hy with rfl | h; exact hxD; exact h4 y h, h5,
          fun y => by rw [hwin, hx, ← h6]; exact ⟨.inl, fun h => h.elim id (fun e => e ▸ hxD)⟩, hmiss _ (fun e => absurd e hm) (fun _ => rfl), fun _ => by rw [← hc]; exact h8 hj0, fun h => by omega⟩
    · have hn : (x :: D).Nodup := List.nodup_cons.2 ⟨hxD, h2⟩
      have hlen := hdl (x :: D) hn (fun y => by rw [List.mem_cons]; exact ⟨fun h => h.elim .inr .inl, fun h => h.elim .inr .inl⟩)
      simp only [List.length_cons] at hlen
      by_cases hlt : D.length < K
      · obtain ⟨g1, g2⟩ := hP.new _ D F x h1 hxD hlt h2 h3 h4
        have hc : cntP K D (l.drop j) = cntP K (x :: D) (l.drop (j + 1)) := by rw [hdrop, cntP, if_neg hxD, if_pos hlt]
        have hxm : ∀ y, y ∈ x :: D ↔ y ∈ (l.take (j + 1)).drop (startP (K : Int) l j) := fun y => by
          rw [hwin, hx, ← h6, List.mem_cons]; exact ⟨fun h => h.elim .inr .inl, fun h => h.elim .inr .inl⟩
        by_cases hj0 : j = 0
        · subst hj0
          have hD0 := h9 rfl
          subst hD0
          have hF0 : F = [] := by
            cases F with
            | nil => rfl
            | cons y F => have := h4 y (List.mem_cons_self ..); cases this
          subst hF0
          have hs1 : startP (K : Int) l (0 + 1) = 0 := rfl
          have hp1 : (phF (K : Int) l (0 + 1)).length = 1 := rfl
          have hc0 : cntP K [] l = cntP K [x] (l.drop (0 + 1)) := by
            have := hc
            rw [List.drop_zero] at this
            exact this
          rw [hs1, hp1]
          by_cases hm : x ∈ (runC c (l.take 0)).pages
          · exact ⟨[x], [], g1 hm, hn, by simp, by simp, by simp only [List.length_cons, List.length_nil]; omega, hxm, hmiss _ (fun _ => rfl) (fun e => absurd hm e), fun _ => by rw [hc0]; omega, fun h => by omega⟩
          · exact ⟨[x], [x], g2 hm, hn, by simp, by simp, by simp only [List.length_cons, List.length_nil]; omega, hxm, hmiss _ (fun e => absurd e hm) (fun _ => rfl), fun _ => by rw [hc0]; omega, fun h => by omega⟩
        · have hnb : newB (K : Int) l j = false := by
            unfold newB
            rw [← hlen]
            simp [hj0]; omega
          rw [hnb] at hphf hsp
          simp only [Bool.false_eq_true, if_false] at hphf hsp
          rw [hsp, hphf]
          by_cases hm : x ∈ (runC c (l.take j)).pages
          · exact ⟨x :: D, F, g1 hm, hn, h3, fun y hy => List.mem_cons_of_mem _ (h4 y hy), by simp only [List.length_cons]; omega, hxm, hmiss _ (fun _ => rfl) (fun e => absurd hm e), fun _ => by rw [← hc]; exact h8 (by omega), fun h => by omega⟩
          · exact ⟨x :: D, x :: F, g2 hm, hn, List.nodup_cons.2 ⟨fun e => hxD (h4 x e), h3⟩, fun y hy => by rcases List.mem_cons.1 hy with rfl | h; exact List.mem_cons_self ..; exact List.mem_cons_of_mem _ (h4 y h),
              by simp only [List.length_cons]; omega, hxm, hmiss _ (fun e => absurd e hm) (fun _ => rfl), fun _ => by rw [← hc]; exact h8 (by omega), fun h => by omega⟩
      · have hj0 : 0 < j := Nat.pos_of_ne_zero (fun e => by rw [h9 e] at hlt; simp at hlt; omega)
        have hnb : newB (K : Int) l j = true := by
          unfold newB
          rw [← hlen]
          simp; right; omega
        rw [hnb] at hphf hsp
        simp only [if_true] at hphf hsp
        obtain ⟨g1, g2⟩ := hP.turn _ D F x h1 hxD (by omega) h2 h3 h4
        have hc : cntP K D (l.drop j) = cntP K [x] (l.drop (j + 1)) + 1 := by rw [hdrop, cntP, if_neg hxD, if_neg hlt]
        have hcc := h8 hj0
        rw [hsp, hphf]
        by_cases hm : x ∈ (runC c (l.take j)).pages
        · exact ⟨[x], [], g1 hm, by simp, by simp, by simp, by simp only [List.length_cons, List.length_nil]; omega, hw1, hstart _ (fun _ => rfl) (fun e => absurd hm e), fun _ => by rw [List.length_append, List.length_singleton]; omega, fun h => by omega⟩
        · exact ⟨[x], [x], g2 hm, by simp, by simp, by simp, by simp only [List.length_cons, List.length_nil]; omega, hw1, hstart _ (fun e => absurd e hm) (fun _ => rfl), fun _ => by rw [List.length_append, List.length_singleton]; omega, fun h => by omega⟩

/-- the phases in a row: where each one ends -/
theorem phF_next (k : Int) (l : List Int) (n : Nat) : ∀ i : Nat, i < (phF k l n).length → ∃ a b : Nat, (phF k l n).getD i 0 = (a : Int) ∧ a ≤ b ∧ b ≤ n ∧ startP k l b = a ∧ 0 < b ∧
    (i + 1 < (phF k l n).length → (phF k l n).getD (i + 1) 0 = (b : Int)) ∧ (i + 1 = (phF k l n).length → b = n) := by
  induction n with
  | zero => intro i hi; simp [phF] at hi
  | succ n ih =>
    intro i hi
    have e1 := phF_succ k l n
    have e2 := startP_succ k l n
    cases hb : newB k l n
    · rw [hb] at e1 e2
      simp only [Bool.false_eq_true, if_false] at e1 e2
      rw [e1] at hi ⊢
      obtain ⟨a, b, h1, h2, h3, h4, h5, h6, h7⟩ := ih i hi
      by_cases hlast : i + 1 = (phF k l n).length
      · have := h7 hlast
        subst this
        exact ⟨a, b + 1, h1, by omega, by omega, by rw [e2]; exact h4, by omega, fun h => by omega, fun _ => rfl⟩
      · exact ⟨a, b, h1, h2, by omega, h4, h5, h6, fun h => absurd h hlast⟩
    · rw [hb] at e1 e2
      simp only [if_true] at e1 e2
      rw [e1] at hi ⊢
      rw [List.length_append, List.length_singleton] at hi ⊢
      by_cases hin : i < (phF k l n).length
      · obtain ⟨a, b, h1, h2, h3, h4, h5, h6, h7⟩ := ih i hin
        have g1 : (phF k l n ++ [(n : Int)]).getD i 0 = (a : Int) := by rw [List.getD_eq_getElem?_getD, List.getElem?_append_left hin, ← List.getD_eq_getElem?_getD]; exact h1
        refine ⟨a, b, g1, h2, by omega, h4, h5, fun _ => ?_, fun h => by omega⟩
        by_cases hlast : i + 1 = (phF k l n).length
        · have := h7 hlast
          rw [hlast, List.getD_eq_getElem?_getD, List.getElem?_append_right (Nat.le_refl _)]
          simp [this]
        · rw [List.getD_eq_getElem?_getD, List.getElem?_append_left (by omega), ← List.getD_eq_getElem?_getD]
          exact h6 (by omega)
      · have hie : i = (phF k l n).length := by omega
        subst hie
        refine ⟨n, n + 1, ?_, by omega, Nat.le_refl _, e2, by omega, fun h => by omega, fun _ => rfl⟩
        rw [List.getD_eq_getElem?_getD, List.getElem?_append_right (Nat.le_refl _)]; simp

theorem inv_lru {k : Int} (hk : 1 ≤ k) : PLru k.toNat (newC 1 k) [] [] := ⟨rfl, by show k = _; omega, by simp [newC], [], [], rfl, by simp, by simp⟩
theorem inv_fifo {k : Int} (hk : 1 ≤ k) : PFifo k.toNat (newC 2 k) [] [] := ⟨rfl, by show k = _; omega, by simp [newC], [], rfl⟩
theorem inv_flush {k : Int} (hk : 1 ≤ k) : PFlush k.toNat (newC 4 k) [] [] := ⟨rfl, by show k = _; omega, rfl, by simp [newC]⟩
/-- the faults in a phase -/
theorem phase_few {k : Int} (hk : 1 ≤ k) {P : Ca → List Int → List Int → Prop} (hP : Cons k.toNat P) {c : Ca} (h0 : P c [] []) (l : List Int) {i : Nat} (hi : i < (phF k l l.length).length) :
    ∃ a b : Nat, (phF k l l.length).getD i 0 = (a : Int) ∧ (if i + 1 < (phF k l l.length).length then (phF k l l.length).getD (i + 1) 0 else (l.length : Int)) = (b : Int) ∧ b ≤ l.length ∧ a ≤ b ∧ betw (places c l) (a : Int) ((b : Int) - 1) ≤ k.toNat := by
  have e : ((k.toNat : Nat) : Int) = k := by omega
  obtain ⟨a, b, h1, h2, h3, h4, _, h6, h7⟩ := phF_next k l l.length i hi
  refine ⟨a, b, h1, ?_, h3, h2, ?_⟩
  · by_cases hlt : i + 1 < (phF k l l.length).length
    · rw [if_pos hlt]; exact h6 hlt
    · rw [if_neg hlt, h7 (by omega)]
  · rw [betw_count]
    show (placesTo c l l.length).countP _ ≤ _
    rw [betw_places c l a b h2 l.length h3 (Nat.le_refl _)]
    obtain ⟨D, F, _, g2, g3, g4, g5, _, g7, _⟩ := inv_all (by omega) hP h0 l b h3
    rw [e, h4] at g7
    rw [← g7]
    exact Nat.le_trans (nodup_le g3 g4) g5
/-- no part with more faults than different items, of those that fit -/
theorem part_few {k : Int} (hk : 1 ≤ k) {P : Ca → List Int → List Int → Prop} (hP : Cons k.toNat P) (hany : ∀ c D F, P c D F → P c [] []) {p : Int} (h0 : P (newC p k) [] []) (l : List Int) (j : Nat) (hj : j < l.length) :
    faultyF p k l j = none := by
  unfold faultyF
  have key : ∀ m, m ≤ j + 1 → scanF k l (places (newC p k) l) j m = none := by
    intro m
    induction m with
    | zero => intro _; rfl
    | succ m ih =>
      intro hm
      unfold scanF
      split
      · rename_i hd
        rw [if_neg, ih (by omega)]
        obtain ⟨D, F, g1, _⟩ := inv_all (by omega) hP h0 l m (by omega)
        have hw := hP.win (by omega) (hany _ D F g1) ((l.take (j + 1)).drop m) (by omega)
        have hb := betw_places (newC p k) l m (j + 1) (by omega) l.length (by omega) (Nat.le_refl _)
        have e2 : (((j + 1 : Nat) : Int) - 1) = (j : Int) := by omega
        rw [e2] at hb
        rw [betw_count]
        show ¬ (k < ((placesTo (newC p k) l l.length).countP _ : Int))
        rw [hb]
        unfold inW
        omega
      · rfl
  exact key (j + 1) (Nat.le_refl _)
theorem faulty_none {n p k : Int} {l : List Int} (h : ∀ j, j < l.length → faultyF p k l j = none) : faultyV n p k l = none := by
  unfold faultyV
  split
  · exact firstS_none h
  · rfl
theorem mark_none {n p k : Int} {l : List Int} (h : ∀ j, j < l.length → breakB p k l j = false) : markV n p k l = none := by
  unfold markV
  split
  · exact firstN_none h
  · rfl
theorem break_lru {k : Int} (hk : 1 ≤ k ∧ k ≤ 6) (l : List Int) (j : Nat) (hj : j < l.length) : breakB 1 k l j = false := by
  have e : ((k.toNat : Nat) : Int) = k := by omega
  obtain ⟨D, F, ⟨p1, p2, p3, A, R, p4, p5, p6⟩, g2, _, _, g5, g6, _, _, _⟩ := inv_all (K := k.toNat) (by omega) (cons_lru (by omega)) (inv_lru hk.1) l j (by omega)
  rw [e] at g6 p2
  have hok := ok_run (ok_new (by omega) hk : Ok (newC 1 k)) (l.take j)
  have hnod := nod_run (c := newC 1 k) (by simp [newC]) (l.take j)
  unfold breakB
  by_cases hb : newB k l j = true
  · rw [startP_succ, hb]
    simp only [if_true]
    rw [List.drop_of_length_le (by rw [List.length_take]; omega)]
    simp [comB, hasB]
  · have hb' : newB k l j = false := by simpa using hb
    rw [startP_succ, hb']
    simp only [Bool.false_eq_true, if_false]
    obtain ⟨C, hC⟩ : ∃ C, runC (newC 1 k) (l.take j) = C := ⟨_, rfl⟩
    rw [hC] at p1 p2 p3 p4 hok hnod ⊢
    obtain ⟨x, hx⟩ : ∃ x, l.getD j 0 = x := ⟨_, rfl⟩
    rw [hx]
    unfold victL
    cases hm : hasB C.pages x
    · by_cases hf : (C.pages.length : Int) < C.size
      · rw [if_pos (by simpa using hf)]; rfl
      · rw [if_neg (by simpa using hf), if_neg (by omega)]
        have hfull : C.pages.length = k.toNat := by omega
        have hAD := nodup_same p5 g2 p6
        have hxD : x ∉ D := fun h => by
          have : x ∈ C.pages := by rw [p4]; exact List.mem_append_left _ ((p6 x).2 h)
          rw [hasB_true.2 this] at hm; cases hm
        have hlt : D.length < k.toNat := by
          unfold newB at hb'
          have hxx : l[j] = x := by rw [← hx, List.getD_eq_getElem?_getD, List.getElem?_eq_getElem hj]; rfl
          have := len_diff (a := x :: D) (b := (l.take (j + 1)).drop (startP k l j)) (List.nodup_cons.2 ⟨hxD, g2⟩) (fun y => by
            rw [win_snoc l _ j (startP_le k l j) hj y, ← g6, List.mem_cons, hxx]; exact ⟨fun h => h.elim .inr .inl, fun h => h.elim .inr .inl⟩)
          rw [← this] at hb'
          simp at hb'
          omega
        have hR : 0 < R.length := by rw [p4, List.length_append] at hfull; omega
        have hv : victim C = C.pages.length - 1 := by unfold victim; rw [if_neg (by omega), if_neg (by omega), if_neg (by omega)]
        rw [hv]
        have hlast : C.pages.getD (C.pages.length - 1) 0 ∈ R := by
          rw [p4, List.getD_eq_getElem?_getD, List.length_append, List.getElem?_append_right (by omega), List.getElem?_eq_getElem (by omega)]
          exact List.getElem_mem _
        have hno : C.pages.getD (C.pages.length - 1) 0 ∉ D := fun h => by
          rw [p4] at hnod
          exact (List.nodup_append.1 hnod).2.2 _ ((p6 _).2 h) _ hlast rfl
        unfold comB
        simp only [List.any_cons, List.any_nil, Bool.or_false]
        rw [hasB_false, ← g6]
        exact hno
    · rw [if_pos (by simp)]; rfl
theorem break_flush {k : Int} (hk : 1 ≤ k ∧ k ≤ 6) (l : List Int) (j : Nat) (hj : j < l.length) : breakB 4 k l j = false := by
  have e : ((k.toNat : Nat) : Int) = k := by omega
  obtain ⟨D, F, ⟨p1, p2, p3, p4⟩, g2, _, _, g5, g6, _, _, _⟩ := inv_all (K := k.toNat) (by omega) (cons_flush (by omega)) (inv_flush hk.1) l j (by omega)
  rw [e] at g6 p2
  unfold breakB
  by_cases hb : newB k l j = true
  · rw [startP_succ, hb]
    simp only [if_true]
    rw [List.drop_of_length_le (by rw [List.length_take]; omega)]
    simp [comB, hasB]
  · have hb' : newB k l j = false := by simpa using hb
    obtain ⟨C, hC⟩ : ∃ C, runC (newC 4 k) (l.take j) = C := ⟨_, rfl⟩
    rw [hC] at p1 p2 p3 p4 ⊢
    obtain ⟨x, hx⟩ : ∃ x, l.getD j 0 = x := ⟨_, rfl⟩
    rw [hx]
    unfold victL
    cases hm : hasB C.pages x
    · by_cases hf : (C.pages.length : Int) < C.size
      · rw [if_pos (by simpa using hf)]; rfl
      · exfalso
        have hxD : x ∉ D := fun h => by
          rw [hasB_true.2 ((p4 x).2 h)] at hm; cases hm
        unfold newB at hb'
        have hxx : l[j] = x := by rw [← hx, List.getD_eq_getElem?_getD, List.getElem?_eq_getElem hj]; rfl
        have := len_diff (a := x :: D) (b := (l.take (j + 1)).drop (startP k l j)) (List.nodup_cons.2 ⟨hxD, g2⟩) (fun y => by
          rw [win_snoc l _ j (startP_le k l j) hj y, ← g6, List.mem_cons, hxx]; exact ⟨fun h => h.elim .inr .inl, fun h => h.elim .inr .inl⟩)
        rw [← this] at hb'
        simp at hb'
        omega
    · rw [if_pos (by simp)]; rfl
/-- how many phases there are, at most -/
theorem phases_few {k : Int} (hk : 1 ≤ k) {l : List Int} {f : Nat} (hf : Fewest k.toNat l f) : (phF k l l.length).length ≤ f ∧ ∀ p : Int, (p = 1 ∨ p = 2 ∨ p = 4) → nfC (newC p k) l ≤ k.toNat * f := by
  have e : ((k.toNat : Nat) : Int) = k := by omega
  have hkt : 0 < k.toNat := by omega
  cases l with
  | nil => exact ⟨by simp [phF], fun p _ => by simp [nfC]⟩
  | cons r l =>
    have h1 := opt_first hkt hf
    have h2 := inv_all hkt (cons_lru hkt) (inv_lru hk) (r :: l) (r :: l).length (Nat.le_refl _)
    obtain ⟨D, F, _, _, _, _, _, _, _, g8, _⟩ := h2
    have g8 := g8 (by simp)
    rw [List.drop_length, e] at g8
    have hc0 : cntP k.toNat D [] = 0 := rfl
    rw [hc0] at g8
    refine ⟨by omega, fun p hp => ?_⟩
    have h3 : nfC (newC p k) (r :: l) ≤ k.toNat * cntP k.toNat [] (r :: l) + k.toNat := by
      rcases hp with rfl | rfl | rfl
      · exact (cons_lru hkt).phases hkt (inv_lru hk) _
      · exact (cons_fifo hkt).phases hkt (inv_fifo hk) _
      · exact (cons_flush hkt).phases hkt (inv_flush hk) _
    have h4 : k.toNat * (cntP k.toNat [] (r :: l) + 1) ≤ k.toNat * f := Nat.mul_le_mul_left _ h1
    rw [Nat.mul_add] at h4
    omega
end Go.Proofs.YtmfhlojmoehmiaaGreat

/- PhasesOf, both sides -/
namespace Go.Proofs.YtmfhlojmoehmiaaGreat
open Go.RowKit

/-- what is told of the phases -/
def phV (k n : Int) (l : List Int) : List Int := if pagB k n l then phF k l l.length else []
set_option maxRecDepth 100000 in
set_option maxHeartbeats 1000000 in
theorem implPhases_any (k n : Int) (vr : Value) (rq : List Int) (w : World) (hr : RI No w vr rq) (hl : rq.length ≤ 1000000) :
    Calls Tryz.prog 53 #[.int .i64 n, .int .i64 k, vr] w (Ret2 fun v0 v1 w' => OI w.heap.size w' v0 (phV k n rq) ∧ v1 = .bool (pagB k n rq) ∧ Chg No w w') := by
  obtain ⟨ra, rn, rc, rfl⟩ := hr.shape
  cases h : inB k 1 6
  · have H : Hid (pagB k n rq = false) := Lib.hid (by unfold pagB; rw [h]; rfl)
    have HV : Hid (phV k n rq = []) := Lib.hid (by unfold phV; rw [H.out]; rfl)
    have HI := Lib.hid h
    clear h
    go_enter Tryz.func53, Tryz.ntmps53
    go_wp2_with (go_at_call 119; refine (isSize_any _ _).mono ?_; rintro e w' ⟨rfl, hww⟩; subst hww; rw [HI.out])
    go_ret2
    exact ⟨_, _, rfl, by rw [HV.out]; exact OI.nil _ _, by rw [H.out]; rfl, Chg.refl _ _⟩
  · have HP : Hid (pagB k n rq = (inB n 1 8 && decide (rq.length ≤ 60) && belowB n rq)) := Lib.hid (by unfold pagB; rw [h]; rfl)
    have HI := Lib.hid h
    clear h
    cases hq : (inB n 1 8 && decide (rq.length ≤ 60) && belowB n rq)
    · have H : Hid (pagB k n rq = false) := Lib.hid (HP.out.trans hq)
      have HV : Hid (phV k n rq = []) := Lib.hid (by unfold phV; rw [H.out]; rfl)
      have HQ := Lib.hid hq
      clear hq
      go_enter Tryz.func53, Tryz.ntmps53
      go_wp2_with (go_at_call 119; refine (isSize_any _ _).mono ?_; rintro e w' ⟨rfl, hww⟩; subst hww; rw [HI.out])
      refine (IsRequests_any No _ rq n w hr).mono ?_
      rintro e w1 ⟨_, rfl, rfl, k1⟩
      rw [HQ.out]
      go_wp2_with fail
      go_ret2
      exact ⟨_, _, rfl, by rw [HV.out]; exact OI.nil _ _, by rw [H.out]; rfl, k1⟩
    · have H : Hid (pagB k n rq = true) := Lib.hid (HP.out.trans hq)
      have HV : Hid (phV k n rq = phF k rq rq.length) := Lib.hid (by unfold phV; rw [H.out]; rfl)
      have HQ := Lib.hid hq
      clear hq
      go_enter Tryz.func53, Tryz.ntmps53
      go_wp2_with (go_at_call 119; refine (isSize_any _ _).mono ?_; rintro e w' ⟨rfl, hww⟩; subst hww; rw [HI.out])
      refine (IsRequests_any No _ rq n w hr).mono ?_
      rintro e w1 ⟨_, rfl, rfl, k1⟩
      rw [HQ.out]
      go_wp2_with fail
      refine (phasesOf_any No k _ rq w1 (hr.keep k1) hl).mono ?_
      rintro e w2 ⟨v2, rfl, o2, k2⟩
      obtain ⟨a2, n2, c2, rfl⟩ := o2.shape
      have hs := k1.size
      go_wp2_with fail
      go_ret2
      exact ⟨_, _, rfl, by rw [HV.out]; exact o2.weak hs, by rw [H.out]; rfl, k1.keep k2⟩
set_option maxRecDepth 100000 in
set_option maxHeartbeats 1000000 in
theorem specPhases_any (k n : Int) (vr : Value) (rq : List Int) (w : World) (hr : RI No w vr rq) (hl : rq.length ≤ 1000000) :
    Calls Tryz.prog 54 #[.int .i64 n, .int .i64 k, vr] w (Ret2 fun v0 v1 w' => OI w.heap.size w' v0 (phV k n rq) ∧ v1 = .bool (pagB k n rq) ∧ Chg No w w') := by
  obtain ⟨ra, rn, rc, rfl⟩ := hr.shape
  have hask : (inB 1 1 7 && inB k 1 6 && (inB n 1 8 && decide (rq.length ≤ 60) && belowB n rq)) = pagB k n rq := by
    unfold pagB reqB
    have : inB 1 1 7 = true := rfl
    rw [this, Bool.true_and]
  cases h : pagB k n rq
  · have HV : Hid (phV k n rq = []) := Lib.hid (by unfold phV; rw [h]; rfl)
    have HA := Lib.hid (hask.trans h)
    have HP := Lib.hid h
    have k0 := (Chg.refl No w).alloc (.cells #[] 3)
    have o0 : OI w.heap.size (w.alloc (.cells #[] 3)) (.slice (some ⟨w.heap.size, 0, none⟩) 0 0) [] := OI.zero (Nat.le_refl _)
    clear hask h
    go_enter Tryz.func54, Tryz.ntmps54
    go_wp2_with (go_at_call 107; refine (l4Asked_any No _ rq n 1 k w hr).mono ?_; rintro e w' ⟨rfl, hww⟩; subst hww; rw [HA.out])
    go_ret2
    exact ⟨_, _, rfl, by rw [HV.out]; exact o0, by first | rfl | (rw [HP.out]; rfl), k0⟩
  · have HV : Hid (phV k n rq = phF k rq rq.length) := Lib.hid (by unfold phV; rw [h]; rfl)
    have HA := Lib.hid (hask.trans h)
    have HP := Lib.hid h
    clear hask h
    go_enter Tryz.func54, Tryz.ntmps54
    go_wp2_with (go_at_call 107; refine (l4Asked_any No _ rq n 1 k w hr).mono ?_; rintro e w' ⟨rfl, hww⟩; subst hww; rw [HA.out])
    refine (l4Phases_any No k _ rq w hr hl).mono ?_
    rintro e w2 ⟨v2, rfl, o2, k2⟩
    obtain ⟨a2, n2, c2, rfl⟩ := o2.shape
    go_wp2_with fail
    go_ret2
    exact ⟨_, _, rfl, by rw [HV.out]; exact o2, by first | rfl | (rw [HP.out]; rfl), k2⟩
end Go.Proofs.YtmfhlojmoehmiaaGreat

/- FaultyPart: the program's side -/
namespace Go.Proofs.YtmfhlojmoehmiaaGreat
open Go.RowKit

set_option maxRecDepth 100000 in
set_option maxHeartbeats 2000000 in
theorem implFaultyPart_any (n p k : Int) (v : Value) (l : List Int) (w : World) (hv : RI No w v l) :
    Calls Tryz.prog 51 #[.int .i64 n, .int .i64 p, .int .i64 k, v] w (Ret2 fun v0 v1 w' => v0 = .agg #[.int .i64 (prA (faultyV n p k l)), .int .i64 (prB (faultyV n p k l))] ∧ v1 = .bool (faultyV n p k l).isSome ∧ Chg No w w') := by
  have b0 := BoxN.new w #[.int .i64 0, .int .i64 0] 80
  have kk := (Chg.refl No w).alloc (.cells #[.int .i64 0, .int .i64 0] 80)
  have hv1 := hv.keep kk
  cases hh : askedB n p k l
  · have HA : Hid (faultyV n p k l = none) := Lib.hid (by unfold faultyV; rw [hh]; rfl)
    have HH := Lib.hid hh
    clear hh
    go_enter Tryz.func51, Tryz.ntmps51
    go_wp2_with fail
    refine (isRun_any No _ l n p k _ hv1).mono ?_
    rintro e w1 ⟨vv, rfl, rfl, k1⟩
    have kk := kk.keep k1
    have b0 := b0.keep k1
    rw [show (inB p 1 7 && inB k 1 6 && (inB n 1 8 && decide (l.length ≤ 60) && belowB n l)) = false from HH.out]
    have c00 := b0.c 0 _ rfl
    have c01 := b0.c 1 _ rfl
    have f0 := b0.fr 0
    have f1 := b0.fr 1
    go_wp2_with fail
    exact bodyPost_ret (v := .tuple #[.agg #[.int .i64 0, .int .i64 0], .bool false]) (by simp [results, Tryz.results51, go_sem, *]) rfl ⟨_, _, rfl, by rw [HA.out]; rfl, by rw [HA.out]; rfl, by first | exact kk | exact (kk.setCell (fun h => absurd h (Nat.lt_irrefl _)) _).setCell (fun h => absurd h (Nat.lt_irrefl _)) _⟩
  · obtain ⟨pl, hpl⟩ : ∃ pl, places (newC p k) l = pl := ⟨_, rfl⟩
    have hpll : pl.length ≤ l.length := by rw [← hpl]; exact placesTo_le _ _ _
    have HA : Hid (faultyV n p k l = firstS (fun j => scanF k l pl j (j + 1)) l.length) := Lib.hid (by unfold faultyV; rw [hh, ← hpl]; rfl)
    have hok := askedB_ok hh
    have hkb : (1 ≤ k ∧ k ≤ 6) ∧ l.length ≤ 60 := by
      simp only [askedB, Bool.and_eq_true, inB_iff, decide_eq_true_eq] at hh
      exact ⟨hh.1.2, hh.2.1.2⟩
    obtain ⟨⟨hk1, hk6⟩, hl60⟩ := hkb
    have HH := Lib.hid hh
    have HPL := Lib.hid hpl
    clear hh hpl
    obtain ⟨la, lc, rfl, hlc1, hlc2, hl44, hla0, hcv⟩ := id hv
    clear hcv hla0
    go_enter Tryz.func51, Tryz.ntmps51
    go_wp2_with fail
    refine (isRun_any No _ l n p k _ hv1).mono ?_
    rintro e w1 ⟨vv, rfl, rfl, k1⟩
    have kk := kk.keep k1
    have b0 := b0.keep k1
    rw [show (inB p 1 7 && inB k 1 6 && (inB n 1 8 && decide (l.length ≤ 60) && belowB n l)) = true from HH.out]
    go_wp2_with fail
    refine (faultPlaces_any No p k _ l w1 (hv.keep kk) hok).mono ?_
    rintro e w2 ⟨v2, rfl, o2, k2⟩
    rw [HPL.out] at o2
    have kk := kk.keep k2
    have b0 := b0.keep k2
    have hp2 := o2.readNo
    have hpL := hp2.len
    have hl0 : (0 : Int) ≤ (l.length : Int) := Int.natCast_nonneg _
    have hpl0 : (0 : Int) ≤ (pl.length : Int) := Int.natCast_nonneg _
    obtain ⟨pa, pc, rfl, _⟩ := id hp2
    go_wp2_with fail
    go_loopw [29] (fun i wr => ∃ j : Nat, j ≤ l.length ∧ i = .int .i64 j ∧ NoS (fun j => scanF k l pl j (j + 1)) j ∧ Chg No w2 wr) (fun i _ => l.length - (intOf i).toNat)
    case atStart => exact ⟨0, Nat.zero_le _, rfl, NoS.zero _, Chg.refl _ _⟩
    case round =>
      obtain ⟨j, hj, rfl, hno, hch⟩ := hrel
      have hj0 : (0 : Int) ≤ (j : Int) := Int.natCast_nonneg _
      by_cases hlt : j < l.length
      · have hj1 : (j : Int) < (l.length : Int) := by omega
        have hw1 : IntKind.i64.wrap ((j : Int) + 1) = (j : Int) + 1 := IntWalk.i64_in _ (by omega)
        go_wp2_with fail
        go_loopw [12] (fun i wr => ∃ (m : Nat) (fi : Int), m ≤ j + 1 ∧ i = .int .i64 fi ∧ Hid (fi = (m : Int) - 1) ∧ Hid (scanF k l pl j (j + 1) = scanF k l pl j m) ∧ Chg No w2 wr) (fun i _ => (intOf i + 1).toNat)
        case atStart => exact ⟨j + 1, (j : Int), Nat.le_refl _, rfl, Lib.hid (by omega), Lib.hid rfl, hch⟩
        case round =>
          obtain ⟨m, fi, hm, rfl, HFI, HSC, hch⟩ := hrel
          cases m with
          | zero =>
            have e := HFI.out
            obtain rfl : fi = -1 := by omega
            clear e
            have HN : Hid (scanF k l pl j (j + 1) = none) := Lib.hid (by rw [HSC.out]; rfl)
            go_wp2_with fail
            go_round
            case rel => exact ⟨j + 1, hlt, by go_num, hno.succ HN.out, hch⟩
            case measure => simp [intOf]; omega
          | succ m =>
            have e := HFI.out
            obtain rfl : fi = (m : Int) := by omega
            clear e
            have hm0 : (0 : Int) ≤ (m : Int) := Int.natCast_nonneg _
            have hm1 : (m : Int) ≤ (j : Int) := by omega
            have hwm : IntKind.i64.wrap ((m : Int) - 1) = (m : Int) - 1 := IntWalk.i64_in _ (by omega)
            obtain ⟨x, hx, hRx⟩ := ((hv.keep kk).keep hch).mid m (j + 1) (m : Int) ((j : Int) + 1) rfl (by omega) (by omega) (by omega)
            obtain ⟨d, hd⟩ : ∃ d, diffL ((l.take (j + 1)).drop m) = d := ⟨_, rfl⟩
            have hsc := HSC.out
            simp only [scanF] at hsc
            have hsc0 : scanF k l pl j (m + 1) = if (d.length : Int) ≤ k then (if k < (betw pl m j : Int) then some m else scanF k l pl j m) else none := by rw [← hd]; rfl
            rw [HSC.out.symm] at hsc0
            have HS0 := Lib.hid hsc0
            have HD := Lib.hid hd
            clear hsc hsc0 hd
            go_wp2_with fail
            refine (rising_any No x _ _ hRx).mono ?_
            rintro e w4 ⟨v4, rfl, o4, k4⟩
            rw [HD.out] at o4
            obtain ⟨a4, c4, rfl, _⟩ := o4.view
            have hch4 := hch.keep k4
            by_cases hle : (d.length : Int) ≤ k
            · have hpz := hp2.keep hch4
              go_wp2_with fail
              go_loop [13, 50] (fun s i => ∃ q : Nat, q ≤ pl.length ∧ i = .int .i64 q ∧ s = .int .i64 (betw (pl.take q) m j : Int)) (fun _ i => pl.length - (intOf i).toNat)
              case atStart => exact ⟨0, Nat.zero_le _, rfl, rfl⟩
              case round =>
                obtain ⟨q, hq, rfl, rfl⟩ := hrel
                have hq0 : (0 : Int) ≤ (q : Int) := Int.natCast_nonneg _
                by_cases hqt : q < pl.length
                · have hq1 : (q : Int) < (pl.length : Int) := by omega
                  obtain ⟨b, off, rfl, _, _, hcell⟩ := hpz.cellAt (by intro e; simp [e] at hqt)
                  have hck := hcell q hqt
                  have hsn := betw_snoc pl m j q hqt
                  have hgy : pl.getD q 0 = pl[q] := by rw [List.getD_eq_getElem?_getD, List.getElem?_eq_getElem hqt]; rfl
                  obtain ⟨z, hz⟩ : ∃ z, pl[q] = z := ⟨_, rfl⟩
                  rw [hgy, hz] at hck
                  rw [hz] at hsn
                  obtain ⟨c, hc⟩ : ∃ c, betw (pl.take q) m j = c := ⟨_, rfl⟩
                  have hcl : c ≤ q := by rw [← hc]; have := betw_le (pl.take q) m j; rw [List.length_take] at this; omega
                  rw [hc] at hsn ⊢
                  have HS := Lib.hid hsn
                  have hc0 : (0 : Int) ≤ (c : Int) := Int.natCast_nonneg _
                  have hw2 : IntKind.i64.wrap ((c : Int) + 1) = (c : Int) + 1 := IntWalk.i64_in _ (by omega)
                  have hw3 : IntKind.i64.wrap ((q : Int) + 1) = (q : Int) + 1 := IntWalk.i64_in _ (by omega)
                  clear hcell hsn hgy hz hc
                  cases hin : inB z m j
                  · have HSS : Hid (betw (pl.take (q + 1)) m j = c) := Lib.hid (by rw [HS.out, hin]; rfl)
                    go_wp2_with (go_at_call 115; refine (within_any _ _ _ _).mono ?_; rintro e w' ⟨rfl, rfl⟩)
                    go_round
                    case rel => exact ⟨q + 1, by omega, by go_num, by rw [HSS.out]⟩
                    case measure => simp [intOf]; omega
                  · have HSS : Hid (betw (pl.take (q + 1)) m j = c + 1) := Lib.hid (by rw [HS.out, hin]; rfl)
                    go_wp2_with (go_at_call 115; refine (within_any _ _ _ _).mono ?_; rintro e w' ⟨rfl, rfl⟩)
                    go_round
                    case rel => exact ⟨q + 1, by omega, by go_num, by rw [HSS.out]; go_num⟩
                    case measure => simp [intOf]; omega
                · have hqe : q = pl.length := by omega
                  subst hqe
                  rw [List.take_length]
                  obtain ⟨bt, hbt⟩ : ∃ bt, betw pl (m : Int) (j : Int) = bt := ⟨_, rfl⟩
                  have hbl : bt ≤ pl.length := by rw [← hbt]; exact betw_le _ _ _
                  have hs := HS0.out
                  rw [if_pos hle, hbt] at hs
                  rw [hbt]
                  by_cases hgt : k < (bt : Int)
                  · rw [if_pos hgt] at hs
                    have HS := Lib.hid hs
                    have b5 := b0.keep hch4
                    have kk5 := kk.keep hch4
                    have c00 := b5.c 0 _ rfl
                    have c01 := b5.c 1 _ rfl
                    have f0 := b5.fr 0
                    have f1 := b5.fr 1
                    clear hs hbt
                    go_wp2_with fail
                    have e := firstS_hit (n := l.length) hno hlt HS.out
                    exact bodyPost_ret (v := .tuple #[.agg #[.int .i64 (m : Int), .int .i64 (j : Int)], .bool true]) (by simp [results, Tryz.results51, go_sem, *]) rfl ⟨_, _, rfl, by rw [HA.out, e]; rfl, by rw [HA.out, e]; rfl, (kk5.setCell (fun h => absurd h (Nat.lt_irrefl _)) _).setCell (fun h => absurd h (Nat.lt_irrefl _)) _⟩
                  · rw [if_neg hgt] at hs
                    have HS := Lib.hid hs
                    clear hs hbt
                    go_wp2_with fail
                    go_round
                    case rel => exact ⟨m, (m : Int) - 1, by omega, rfl, Lib.hid rfl, Lib.hid HS.out, hch4⟩
                    case measure => simp [intOf]
            · have HN : Hid (scanF k l pl j (j + 1) = none) := Lib.hid (by rw [HS0.out, if_neg hle])
              go_wp2_with fail
              go_round
              case rel => exact ⟨j + 1, hlt, by go_num, hno.succ HN.out, hch4⟩
              case measure => simp [intOf]; omega
      · have hj' : j = l.length := by omega
        subst hj'
        have e := firstS_none (n := l.length) hno
        have HA : Hid (faultyV n p k l = none) := Lib.hid (by rw [HA.out, e])
        have kk := kk.keep hch
        have b0 := b0.keep hch
        clear e
        have c00 := b0.c 0 _ rfl
        have c01 := b0.c 1 _ rfl
        have f0 := b0.fr 0
        have f1 := b0.fr 1
        go_wp2_with fail
        exact bodyPost_ret (v := .tuple #[.agg #[.int .i64 0, .int .i64 0], .bool false]) (by simp [results, Tryz.results51, go_sem, *]) rfl ⟨_, _, rfl, by rw [HA.out]; rfl, by rw [HA.out]; rfl, by first | exact kk | exact (kk.setCell (fun h => absurd h (Nat.lt_irrefl _)) _).setCell (fun h => absurd h (Nat.lt_irrefl _)) _⟩
end Go.Proofs.YtmfhlojmoehmiaaGreat

/- MarkingBreak of the reference -/
namespace Go.Proofs.YtmfhlojmoehmiaaGreat
open Go.RowKit

/-- single operations, in whatever frame -/
theorem idx_run {a : Act} {o : Oper} (s i : Operand) (ho : o.op = .indexAddr 23 s i) {b off n cap j : Nat} (hs : a.eval s = .slice (some ⟨b, off, none⟩) n cap) (hi : a.eval i = .int .i64 (j : Int)) (hj : j < n) (w : World) :
    (execOp a.eval o).run Tryz.prog w = .ok (.value (.pointer (some ⟨b, off + j, none⟩))) w := by
  have h0 : (0 : Int) ≤ (j : Int) := Int.natCast_nonneg _
  have h1 : (j : Int) < (n : Int) := by omega
  unfold execOp
  simp only [ho, hs, hi]
  go_simp
theorem ldi_run {a : Act} {o : Oper} (s : Operand) (ho : o.op = .load 3 s) {p : Addr} {y : Int} (hs : a.eval s = .pointer (some p)) (w : World) (hc : w.cell? p = some (.int .i64 y)) :
    (execOp a.eval o).run Tryz.prog w = .ok (.value (.int .i64 y)) w := by
  unfold execOp
  simp only [ho, hs]
  go_simp
theorem ldc_run {a : Act} {o : Oper} (s : Operand) (ho : o.op = .load 74 s) {b : Nat} {x0 x1 x4 : Int} {a2 a3 : Option Addr} {n2 q2 n3 q3 : Nat} (hs : a.eval s = .pointer (some ⟨b, 0, none⟩)) (w : World) (hc : Box w b (.int .i64 x0) (.int .i64 x1) (.slice a2 n2 q2) (.slice a3 n3 q3) (.int .i64 x4)) :
    (execOp a.eval o).run Tryz.prog w = .ok (.value (.agg #[.int .i64 x0, .int .i64 x1, .slice a2 n2 q2, .slice a3 n3 q3, .int .i64 x4])) w := by
  obtain ⟨c0, c1, c2, c3, c4, fr⟩ := hc
  unfold execOp
  simp only [ho, hs]
  go_simp
theorem slc_run {a : Act} {o : Oper} (s i j : Operand) (ho : o.op = .slice 23 s (some i) (some j) none) {v vi vj x : Value} (hs : a.eval s = v) (hi : a.eval i = vi) (hj : a.eval j = vj) (hx : ∀ w, (Instr.slice 23 v (some vi) (some vj) none).run Tryz.prog w = .ok x w) (w : World) :
    (execOp a.eval o).run Tryz.prog w = .ok (.value x) w := by
  unfold execOp
  simp only [ho, hs, hi, hj, Option.map_some, Option.map_none]
  have := hx w
  go_simp

set_option maxRecDepth 100000 in
set_option maxHeartbeats 2000000 in
theorem specMarkingBreak_any (n p k : Int) (v : Value) (l : List Int) (w : World) (hv : RI No w v l) :
    Calls Tryz.prog 50 #[.int .i64 n, .int .i64 p, .int .i64 k, v] w (Ret2 fun v0 v1 w' => v0 = .int .i64 (idxOr0 (markV n p k l)) ∧ v1 = .bool (markV n p k l).isSome ∧ Chg No w w') := by
  cases hh : askedB n p k l
  · have HA : Hid (markV n p k l = none) := Lib.hid (by unfold markV; rw [hh]; rfl)
    have HH := Lib.hid hh
    clear hh
    go_enter Tryz.func50, Tryz.ntmps50
    go_wp2_with fail
    refine (l4Asked_any No _ l n p k w hv).mono ?_
    rintro e w1 ⟨rfl, rfl⟩
    rw [show (inB p 1 7 && inB k 1 6 && (inB n 1 8 && decide (l.length ≤ 60) && belowB n l)) = false from HH.out]
    go_wp2_with fail
    go_ret2
    exact ⟨_, _, rfl, by rw [HA.out]; rfl, by rw [HA.out]; rfl, Chg.refl No w⟩
  · have HA : Hid (markV n p k l = firstN (breakB p k l) l.length) := Lib.hid (by unfold markV; rw [hh]; rfl)
    have hok := askedB_ok hh
    have hl60 : l.length ≤ 1000000 := by
      simp only [askedB, Bool.and_eq_true, decide_eq_true_eq] at hh
      omega
    have HH := Lib.hid hh
    obtain ⟨c, hc0⟩ : ∃ c, newC p k = c := ⟨_, rfl⟩
    have HC0 := Lib.hid hc0
    have HBR : Hid (∀ j, breakB p k l j = comB (victL (runC c (l.take j)) (l.getD j 0)) ((l.take j).drop (startP k l (j + 1)))) := Lib.hid (fun j => by rw [← hc0]; rfl)
    obtain ⟨a, cap, rfl, hcap, hmax, hlen, _, hc⟩ := id hv
    clear hh
    go_enter Tryz.func50, Tryz.ntmps50
    go_wp2_with fail
    refine (l4Asked_any No _ l n p k w hv).mono ?_
    rintro e w1 ⟨rfl, rfl⟩
    rw [show (inB p 1 7 && inB k 1 6 && (inB n 1 8 && decide (l.length ≤ 60) && belowB n l)) = true from HH.out]
    go_wp2_with fail
    refine (l4Phases_any No k _ l w hv hl60).mono ?_
    rintro e w1 ⟨vp, rfl, op, kp⟩
    have hph := op.readNo
    obtain ⟨fa, fc, rfl, _⟩ := op.view
    clear op
    go_wp2_with fail
    refine (l4New_any p k w1).mono ?_
    rintro e w2 ⟨v2, rfl, hrc, k2⟩
    obtain ⟨pv0, mv0, rfl, hp0, hm0⟩ := hrc (fun q => q < w1.heap.size) (fun q hq => by have := k2.size; omega)
    rw [hc0] at hp0 hm0 hok ⊢
    obtain ⟨pa, pn, pc, rfl⟩ := hp0.shape
    obtain ⟨ma, mn, mc, rfl⟩ := hm0.shape
    have hph2 := hph.keep k2
    have ch2 := kp.keep k2
    have hbx := Box.new w2 (.int .i64 c.pol) (.int .i64 c.size) (.slice pa pn pc) (.slice ma mn mc) (.int .i64 c.hand) 74
    clear hrc hc0
    go_wp2_with fail
    go_loopw [12, 13] (fun s i wr => ∃ (j : Nat) (pv mv : Value) (B : Nat → Prop), j ≤ l.length ∧ i = .int .i64 j ∧ s = .int .i64 (startP k l j : Int) ∧ B w2.heap.size ∧ Bd B wr ∧ NoneTo (breakB p k l) j ∧
        Box wr w2.heap.size (.int .i64 (runC c (l.take j)).pol) (.int .i64 (runC c (l.take j)).size) pv mv (.int .i64 (runC c (l.take j)).hand) ∧
        RI B wr pv (runC c (l.take j)).pages ∧ RI B wr mv (runC c (l.take j)).marks ∧ Chg No w2 wr) (fun _ i _ => l.length - (intOf i).toNat)
    case atStart =>
      refine ⟨0, .slice pa pn pc, .slice ma mn mc, fun q => q = w2.heap.size, Nat.zero_le _, rfl, rfl, rfl, fun q hq => ?_, NoneTo.zero _, hbx, ?_, ?_, (Chg.refl No w2).alloc _⟩
      · rw [World.size_alloc]; omega
      · exact hp0.to ((Chg.refl No w2).alloc _) (fun _ e => e.elim) (fun q hq => .inr (by omega))
      · exact hm0.to ((Chg.refl No w2).alloc _) (fun _ e => e.elim) (fun q hq => .inr (by omega))
    case round =>
      obtain ⟨j, pv, mv, B, hj, rfl, rfl, hNB, hB, hno, hbox, hp', hm', hch⟩ := hrel
      obtain ⟨pa', pn', pc', rfl⟩ := hp'.shape
      obtain ⟨ma', mn', mc', rfl⟩ := hm'.shape
      obtain ⟨ck, hck⟩ : ∃ ck, runC c (l.take j) = ck := ⟨_, rfl⟩
      have hokk : Ok ck := hck ▸ ok_run hok _
      rw [hck] at hbox hp' hm'
      by_cases hlt : j < l.length
      · obtain ⟨b, off, rfl, _, hb, hcell⟩ := hc (by intro e; simp [e] at hlt)
        have hrun := runC_snoc c l j hlt
        rw [hck] at hrun
        obtain ⟨y, hy⟩ : ∃ y, l[j] = y := ⟨_, rfl⟩
        have hcw := ch2.keep hch
        have hcl := (hcw.cellD b (off + j) hb (fun e => e)).trans (hcell j hlt)
        have hgy : l.getD j 0 = y := by rw [← hy, List.getD_eq_getElem?_getD, List.getElem?_eq_getElem hlt]; rfl
        rw [hgy] at hcl
        rw [hy] at hrun
        have hbr : breakB p k l j = comB (victL ck y) ((l.take j).drop (startP k l (j + 1))) := by rw [HBR.out, hck, hgy]
        have hhas := phF_has k l l.length j
        rw [show decide (j < l.length) = true by simpa using hlt, Bool.true_and] at hhas
        have hss := startP_succ k l j
        have hslt := startP_lt k l j
        obtain ⟨s0, hs0⟩ : ∃ s0, startP k l j = s0 := ⟨_, rfl⟩
        obtain ⟨s1, hs1⟩ : ∃ s1, startP k l (j + 1) = s1 := ⟨_, rfl⟩
        rw [hs0] at hss ⊢
        rw [hs1] at hss hslt hbr
        obtain ⟨vl, hvl⟩ : ∃ vl, victL ck y = vl := ⟨_, rfl⟩
        rw [hvl] at hbr
        have HR := Lib.hid hrun
        have HBJ := Lib.hid hbr
        have HSS := Lib.hid hss
        have HS1 := Lib.hid hs1
        have HVL := Lib.hid hvl
        clear hcell hc hrun hck hgy hy hbr hss hs0 hs1 hvl
        have hj0 : (0 : Int) ≤ (j : Int) := Int.natCast_nonneg _
        have hj1 : (j : Int) < (l.length : Int) := by omega
        have hw1 : IntKind.i64.wrap ((j : Int) + 1) = (j : Int) + 1 := IntWalk.i64_in _ (by omega)
        have hrw := (hv.keep hcw)
        obtain ⟨x, hx, hRx⟩ := hrw.mid s1 j (s1 : Int) (j : Int) rfl rfl hslt (by omega)
        go_wp2_with fail
        refine (l1Has_any No _ _ (j : Int) wr (hph2.keep hch)).mono ?_
        rintro e w' ⟨rfl, rfl⟩
        rw [hhas]
        have HHS := Lib.hid hhas
        clear hhas
        cases hnb : newB k l j
        · have hse : s0 = s1 := by have e := HSS.out; rw [hnb] at e; exact e.symm
          clear HSS
          subst hse
          have HNBJ := Lib.hid hnb
          clear hnb
          dsimp only
          go_wp2_with fail
          refine wp_region_K (S := fun W => Box W w2.heap.size (.int .i64 ck.pol) (.int .i64 ck.size) (.slice pa' pn' pc') (.slice ma' mn' mc') (.int .i64 ck.hand) ∧ W.cell? ⟨b, off + j, none⟩ = some (.int .i64 y)) (k := 5) (by kernel_rfl) ?_
          have d0 : Chg No wr wr.drew := (Chg.refl No wr).drew
          have hS : (fun W : World => Box W w2.heap.size (.int .i64 ck.pol) (.int .i64 ck.size) (.slice pa' pn' pc') (.slice ma' mn' mc') (.int .i64 ck.hand) ∧ W.cell? ⟨b, off + j, none⟩ = some (.int .i64 y)) wr.drew := ⟨hbox.keep d0, (d0.cellD b (off + j) (Nat.lt_of_lt_of_le hb hcw.size) (fun e => e)).trans hcl⟩
          have hp1 := hp'.keep d0
          have hm1 := hm'.keep d0
          have hR1 := hRx.keep d0
          have hch1 := hch.keep d0
          have hcw1 := hcw.keep d0
          have hB1 := hB.keep d0
          clear hcl hbox hp' hm' hB hcw hch hRx hrw
          generalize wr.drew = W at hS hp1 hm1 hR1 hch1 hcw1 hB1 ⊢
          clear d0
          refine wpAnyK_take0 1 (.slice (some ⟨b, off, none⟩) l.length cap) rfl (by kernel_rfl) (fun _ _ _ h => h) hS rfl (fun w => by kernel_rfl) ?_
          simp only [List.getElem_toArray, List.getElem_cons_succ, List.getElem_cons_zero, Act.put, List.setIfInBounds_toArray, List.set_cons_zero, List.set_cons_succ]
          refine wpAnyK_take0 2 (.int .i64 (j : Int)) rfl (by kernel_rfl) (fun _ _ _ h => h) hS rfl (fun w => by kernel_rfl) ?_
          simp only [List.getElem_toArray, List.getElem_cons_succ, List.getElem_cons_zero, Act.put, List.setIfInBounds_toArray, List.set_cons_zero, List.set_cons_succ]
          refine wpAnyK_take0 3 (.pointer (some ⟨b, off + j, none⟩)) rfl (by kernel_rfl) (fun _ _ _ h => h) hS rfl (fun w => idx_run (.tmp 37) (.tmp 38) rfl rfl rfl hlt w) ?_
          simp only [List.getElem_toArray, List.getElem_cons_succ, List.getElem_cons_zero, Act.put, List.setIfInBounds_toArray, List.set_cons_zero, List.set_cons_succ]
          refine wpAnyK_take0 6 (.slice (some ⟨b, off, none⟩) l.length cap) rfl (by kernel_rfl) (fun _ _ _ h => h) hS rfl (fun w => by kernel_rfl) ?_
          simp only [List.getElem_toArray, List.getElem_cons_succ, List.getElem_cons_zero, Act.put, List.setIfInBounds_toArray, List.set_cons_zero, List.set_cons_succ]
          refine wpAnyK_take0 7 (.int .i64 (s0 : Int)) rfl (by kernel_rfl) (fun _ _ _ h => h) hS rfl (fun w => by kernel_rfl) ?_
          simp only [List.getElem_toArray, List.getElem_cons_succ, List.getElem_cons_zero, Act.put, List.setIfInBounds_toArray, List.set_cons_zero, List.set_cons_succ]
          refine wpAnyK_take0 8 (.int .i64 (j : Int)) rfl (by kernel_rfl) (fun _ _ _ h => h) hS rfl (fun w => by kernel_rfl) ?_
          simp only [List.getElem_toArray, List.getElem_cons_succ, List.getElem_cons_zero, Act.put, List.setIfInBounds_toArray, List.set_cons_zero, List.set_cons_succ]
          refine wpAnyK_take0 9 (x) rfl (by kernel_rfl) (fun _ _ _ h => h) hS rfl (fun w => slc_run (v := .slice (some ⟨b, off, none⟩) l.length cap) (vi := .int .i64 (s0 : Int)) (vj := .int .i64 (j : Int)) (.tmp 42) (.tmp 43) (.tmp 44) rfl rfl rfl rfl hx w) ?_
          simp only [List.getElem_toArray, List.getElem_cons_succ, List.getElem_cons_zero, Act.put, List.setIfInBounds_toArray, List.set_cons_zero, List.set_cons_succ]
          refine wpAnyK_take 4 (.int .i64 y) rfl (by kernel_rfl) (fun _ _ _ h => h) hS rfl (fun w hw => ldi_run (.tmp 39) rfl rfl w hw.2) ?_
          simp only [List.getElem_toArray, List.getElem_cons_succ, List.getElem_cons_zero, Act.put, List.setIfInBounds_toArray, List.set_cons_zero, List.set_cons_succ]
          refine wpAnyK_take 0 (.agg #[.int .i64 ck.pol, .int .i64 ck.size, .slice pa' pn' pc', .slice ma' mn' mc', .int .i64 ck.hand]) rfl (by kernel_rfl) (fun _ _ _ h => h) hS rfl (fun w hw => ldc_run (.tmp 11) rfl rfl w hw.1) ?_
          simp only [List.getElem_toArray, List.getElem_cons_zero, Act.put, List.setIfInBounds_toArray, List.set_cons_zero, List.set_cons_succ]
          refine wpAnyK_1 5 (by kernel_rfl) (wpOpK' rfl rfl ?_)
          intro K hK
          refine ocall (f := 112) (args := #[.agg #[.int .i64 ck.pol, .int .i64 ck.size, .slice pa' pn' pc', .slice ma' mn' mc', .int .i64 ck.hand], .int .i64 y]) (by kernel_rfl) (l4Victims_any B _ ck y W ⟨_, _, rfl, hp1, hm1⟩ hokk) (fun v1 W1 h1 => hK.out _ _ ⟨hS.1.keep h1.2, (h1.2.cellD b (off + j) (Nat.lt_of_lt_of_le hb hcw1.size) (fun e => e)).trans hS.2⟩ ?_)
          have hS1 : (fun W : World => Box W w2.heap.size (.int .i64 ck.pol) (.int .i64 ck.size) (.slice pa' pn' pc') (.slice ma' mn' mc') (.int .i64 ck.hand) ∧ W.cell? ⟨b, off + j, none⟩ = some (.int .i64 y)) W1 := ⟨hS.1.keep h1.2, (h1.2.cellD b (off + j) (Nat.lt_of_lt_of_le hb hcw1.size) (fun e => e)).trans hS.2⟩
          obtain ⟨o1, k1⟩ := h1
          rw [HVL.out] at o1
          clear hK K hS
          obtain ⟨a1, n1, q1, rfl⟩ := o1.shape
          simp only [List.getElem_toArray, List.getElem_cons_succ, List.getElem_cons_zero, Act.put, List.setIfInBounds_toArray, List.set_cons_zero, List.set_cons_succ]
          refine wpAnyK_1 10 (by kernel_rfl) (wpOpK' rfl rfl ?_)
          intro K hK
          refine ocall (f := 111) (args := #[.slice a1 n1 q1, x]) (φ := fun v w' => v = .bool (comB vl ((l.take j).drop s0)) ∧ W1 = w') (by kernel_rfl) ((l4Common_any No No _ x _ _ W1 o1.readNo (hR1.keep k1)).mono (fun e w' h => ⟨_, h.1, rfl, h.2⟩)) (fun v2 W2 h2 => hK.out _ _ (h2.2 ▸ hS1) ?_)
          obtain ⟨rfl, rfl⟩ := h2
          clear hK K
          simp only [List.getElem_toArray, List.getElem_cons_succ, List.getElem_cons_zero, Act.put, List.setIfInBounds_toArray, List.set_cons_zero, List.set_cons_succ]
          refine ⟨by kernel_rfl, ?_⟩
          obtain ⟨hbox, hcl⟩ := hS1
          have hp' := hp1.keep k1
          have hm' := hm1.keep k1
          have hch := hch1.keep k1
          have hcw := hcw1.keep k1
          have hB := hB1.keep k1
          clear hp1 hm1 hR1 hch1 hcw1 hB1
          rw [← HBJ.out]
          cases hbk : breakB p k l j
          · have HBK := Lib.hid hbk
            clear hbk
            obtain ⟨c0, c1, c2, c3, c4, hfr⟩ := id hbox
            go_wp2_with fail
            go_still_tail 5, (by kernel_rfl)
            have hd1 : Chg No W1 W1.drew := (Chg.refl No W1).drew
            change wpList _ _ _ _ _ W1.drew
            have hbox1 := hbox.keep hd1
            have hp1 := hp'.keep hd1
            have hm1 := hm'.keep hd1
            have hch1 := hch.keep hd1
            have hB1 := hB.keep hd1
            clear c0 c1 c2 c3 c4 hfr hcl hbox hp' hm' hch hB hcw
            generalize W1.drew = W3 at hbox1 hp1 hm1 hch1 hB1 ⊢
            clear hd1
            go_wp2_with fail
            refine (l4Step_any B _ ck y W3 ⟨_, _, rfl, hp1, hm1⟩ hB1 hokk).mono ?_
            rintro e w3 ⟨v3, rfl, ⟨pv3, mv3, rfl, hp3, hm3⟩, hk3⟩
            rw [← HR.out] at hp3 hm3
            obtain ⟨pa3, pn3, pc3, rfl⟩ := hp3.shape
            obtain ⟨ma3, mn3, mc3, rfl⟩ := hm3.shape
            have hbox3 := hbox1.keep hk3
            obtain ⟨c0, c1, c2, c3, c4, hfr⟩ := id hbox3
            have hfr0 := hfr 0
            have hfr1 := hfr 1
            have hfr2 := hfr 2
            have hfr3 := hfr 3
            have hfr4 := hfr 4
            have hbox5 := hbox3.put5 (.int .i64 (stepC ck y).pol) (.int .i64 (stepC ck y).size) (.slice pa3 pn3 pc3) (.slice ma3 mn3 mc3) (.int .i64 (stepC ck y).hand)
            have hcb := (Chg.refl (fun q => q = w2.heap.size) w3).put5 (b := w2.heap.size) (fun _ => rfl) (.int .i64 (stepC ck y).pol) (.int .i64 (stepC ck y).size) (.slice pa3 pn3 pc3) (.slice ma3 mn3 mc3) (.int .i64 (stepC ck y).hand)
            have hp5 := hp3.step hcb (fun q hq => hq ▸ hNB)
            have hm5 := hm3.step hcb (fun q hq => hq ▸ hNB)
            have hch5 := (hch1.keep hk3).step hcb (fun q hq hl => by omega)
            have hB5 := (hB1.keep hk3).keep hcb
            go_wp2_with fail
            go_roundw
            case measure => simp [intOf]; omega
            case rel => exact ⟨j + 1, .slice pa3 pn3 pc3, .slice ma3 mn3 mc3, B, hlt, by go_num, by rw [HS1.out], hNB, hB5, hno.succ HBK.out, by rw [HR.out]; exact hbox5, hp5, hm5, hch5⟩
          · have HBK := Lib.hid hbk
            clear hbk hcl
            have e := firstN_hit (n := l.length) hno hlt HBK.out
            have HE := Lib.hid e
            clear e
            go_wp2_with fail
            go_ret2
            exact ⟨_, _, rfl, by rw [HA.out, HE.out]; rfl, by rw [HA.out, HE.out]; rfl, hcw⟩
        · have hse : j = s1 := by have e := HSS.out; rw [hnb] at e; exact e.symm
          clear HSS
          subst hse
          have HNBJ := Lib.hid hnb
          clear hnb
          dsimp only
          go_wp2_with fail
          refine wp_region_K (S := fun W => Box W w2.heap.size (.int .i64 ck.pol) (.int .i64 ck.size) (.slice pa' pn' pc') (.slice ma' mn' mc') (.int .i64 ck.hand) ∧ W.cell? ⟨b, off + j, none⟩ = some (.int .i64 y)) (k := 5) (by kernel_rfl) ?_
          have d0 : Chg No wr wr.drew := (Chg.refl No wr).drew
          have hS : (fun W : World => Box W w2.heap.size (.int .i64 ck.pol) (.int .i64 ck.size) (.slice pa' pn' pc') (.slice ma' mn' mc') (.int .i64 ck.hand) ∧ W.cell? ⟨b, off + j, none⟩ = some (.int .i64 y)) wr.drew := ⟨hbox.keep d0, (d0.cellD b (off + j) (Nat.lt_of_lt_of_le hb hcw.size) (fun e => e)).trans hcl⟩
          have hp1 := hp'.keep d0
          have hm1 := hm'.keep d0
          have hR1 := hRx.keep d0
          have hch1 := hch.keep d0
          have hcw1 := hcw.keep d0
          have hB1 := hB.keep d0
          clear hcl hbox hp' hm' hB hcw hch hRx hrw
          generalize wr.drew = W at hS hp1 hm1 hR1 hch1 hcw1 hB1 ⊢
          clear d0
          refine wpAnyK_take0 1 (.slice (some ⟨b, off, none⟩) l.length cap) rfl (by kernel_rfl) (fun _ _ _ h => h) hS rfl (fun w => by kernel_rfl) ?_
          simp only [List.getElem_toArray, List.getElem_cons_succ, List.getElem_cons_zero, Act.put, List.setIfInBounds_toArray, List.set_cons_zero, List.set_cons_succ]
          refine wpAnyK_take0 2 (.int .i64 (j : Int)) rfl (by kernel_rfl) (fun _ _ _ h => h) hS rfl (fun w => by kernel_rfl) ?_
          simp only [List.getElem_toArray, List.getElem_cons_succ, List.getElem_cons_zero, Act.put, List.setIfInBounds_toArray, List.set_cons_zero, List.set_cons_succ]
          refine wpAnyK_take0 3 (.pointer (some ⟨b, off + j, none⟩)) rfl (by kernel_rfl) (fun _ _ _ h => h) hS rfl (fun w => idx_run (.tmp 37) (.tmp 38) rfl rfl rfl hlt w) ?_
          simp only [List.getElem_toArray, List.getElem_cons_succ, List.getElem_cons_zero, Act.put, List.setIfInBounds_toArray, List.set_cons_zero, List.set_cons_succ]
          refine wpAnyK_take0 6 (.slice (some ⟨b, off, none⟩) l.length cap) rfl (by kernel_rfl) (fun _ _ _ h => h) hS rfl (fun w => by kernel_rfl) ?_
          simp only [List.getElem_toArray, List.getElem_cons_succ, List.getElem_cons_zero, Act.put, List.setIfInBounds_toArray, List.set_cons_zero, List.set_cons_succ]
          refine wpAnyK_take0 7 (.int .i64 (j : Int)) rfl (by kernel_rfl) (fun _ _ _ h => h) hS rfl (fun w => by kernel_rfl) ?_
          simp only [List.getElem_toArray, List.getElem_cons_succ, List.getElem_cons_zero, Act.put, List.setIfInBounds_toArray, List.set_cons_zero, List.set_cons_succ]
          refine wpAnyK_take0 8 (.int .i64 (j : Int)) rfl (by kernel_rfl) (fun _ _ _ h => h) hS rfl (fun w => by kernel_rfl) ?_
          simp only [List.getElem_toArray, List.getElem_cons_succ, List.getElem_cons_zero, Act.put, List.setIfInBounds_toArray, List.set_cons_zero, List.set_cons_succ]
          refine wpAnyK_take0 9 (x) rfl (by kernel_rfl) (fun _ _ _ h => h) hS rfl (fun w => slc_run (v := .slice (some ⟨b, off, none⟩) l.length cap) (vi := .int .i64 (j : Int)) (vj := .int .i64 (j : Int)) (.tmp 42) (.tmp 43) (.tmp 44) rfl rfl rfl rfl hx w) ?_
          simp only [List.getElem_toArray, List.getElem_cons_succ, List.getElem_cons_zero, Act.put, List.setIfInBounds_toArray, List.set_cons_zero, List.set_cons_succ]
          refine wpAnyK_take 4 (.int .i64 y) rfl (by kernel_rfl) (fun _ _ _ h => h) hS rfl (fun w hw => ldi_run (.tmp 39) rfl rfl w hw.2) ?_
          simp only [List.getElem_toArray, List.getElem_cons_succ, List.getElem_cons_zero, Act.put, List.setIfInBounds_toArray, List.set_cons_zero, List.set_cons_succ]
          refine wpAnyK_take 0 (.agg #[.int .i64 ck.pol, .int .i64 ck.size, .slice pa' pn' pc', .slice ma' mn' mc', .int .i64 ck.hand]) rfl (by kernel_rfl) (fun _ _ _ h => h) hS rfl (fun w hw => ldc_run (.tmp 11) rfl rfl w hw.1) ?_
          simp only [List.getElem_toArray, List.getElem_cons_zero, Act.put, List.setIfInBounds_toArray, List.set_cons_zero, List.set_cons_succ]
          refine wpAnyK_1 5 (by kernel_rfl) (wpOpK' rfl rfl ?_)
          intro K hK
          refine ocall (f := 112) (args := #[.agg #[.int .i64 ck.pol, .int .i64 ck.size, .slice pa' pn' pc', .slice ma' mn' mc', .int .i64 ck.hand], .int .i64 y]) (by kernel_rfl) (l4Victims_any B _ ck y W ⟨_, _, rfl, hp1, hm1⟩ hokk) (fun v1 W1 h1 => hK.out _ _ ⟨hS.1.keep h1.2, (h1.2.cellD b (off + j) (Nat.lt_of_lt_of_le hb hcw1.size) (fun e => e)).trans hS.2⟩ ?_)
          have hS1 : (fun W : World => Box W w2.heap.size (.int .i64 ck.pol) (.int .i64 ck.size) (.slice pa' pn' pc') (.slice ma' mn' mc') (.int .i64 ck.hand) ∧ W.cell? ⟨b, off + j, none⟩ = some (.int .i64 y)) W1 := ⟨hS.1.keep h1.2, (h1.2.cellD b (off + j) (Nat.lt_of_lt_of_le hb hcw1.size) (fun e => e)).trans hS.2⟩
          obtain ⟨o1, k1⟩ := h1
          rw [HVL.out] at o1
          clear hK K hS
          obtain ⟨a1, n1, q1, rfl⟩ := o1.shape
          simp only [List.getElem_toArray, List.getElem_cons_succ, List.getElem_cons_zero, Act.put, List.setIfInBounds_toArray, List.set_cons_zero, List.set_cons_succ]
          refine wpAnyK_1 10 (by kernel_rfl) (wpOpK' rfl rfl ?_)
          intro K hK
          refine ocall (f := 111) (args := #[.slice a1 n1 q1, x]) (φ := fun v w' => v = .bool (comB vl ((l.take j).drop j)) ∧ W1 = w') (by kernel_rfl) ((l4Common_any No No _ x _ _ W1 o1.readNo (hR1.keep k1)).mono (fun e w' h => ⟨_, h.1, rfl, h.2⟩)) (fun v2 W2 h2 => hK.out _ _ (h2.2 ▸ hS1) ?_)
          obtain ⟨rfl, rfl⟩ := h2
          clear hK K
          simp only [List.getElem_toArray, List.getElem_cons_succ, List.getElem_cons_zero, Act.put, List.setIfInBounds_toArray, List.set_cons_zero, List.set_cons_succ]
          refine ⟨by kernel_rfl, ?_⟩
          obtain ⟨hbox, hcl⟩ := hS1
          have hp' := hp1.keep k1
          have hm' := hm1.keep k1
          have hch := hch1.keep k1
          have hcw := hcw1.keep k1
          have hB := hB1.keep k1
          clear hp1 hm1 hR1 hch1 hcw1 hB1
          rw [← HBJ.out]
          cases hbk : breakB p k l j
          · have HBK := Lib.hid hbk
            clear hbk
            obtain ⟨c0, c1, c2, c3, c4, hfr⟩ := id hbox
            go_wp2_with fail
            go_still_tail 5, (by kernel_rfl)
            have hd1 : Chg No W1 W1.drew := (Chg.refl No W1).drew
            change wpList _ _ _ _ _ W1.drew
            have hbox1 := hbox.keep hd1
            have hp1 := hp'.keep hd1
            have hm1 := hm'.keep hd1
            have hch1 := hch.keep hd1
            have hB1 := hB.keep hd1
            clear c0 c1 c2 c3 c4 hfr hcl hbox hp' hm' hch hB hcw
            generalize W1.drew = W3 at hbox1 hp1 hm1 hch1 hB1 ⊢
            clear hd1
            go_wp2_with fail
            refine (l4Step_any B _ ck y W3 ⟨_, _, rfl, hp1, hm1⟩ hB1 hokk).mono ?_
            rintro e w3 ⟨v3, rfl, ⟨pv3, mv3, rfl, hp3, hm3⟩, hk3⟩
            rw [← HR.out] at hp3 hm3
            obtain ⟨pa3, pn3, pc3, rfl⟩ := hp3.shape
            obtain ⟨ma3, mn3, mc3, rfl⟩ := hm3.shape
            have hbox3 := hbox1.keep hk3
            obtain ⟨c0, c1, c2, c3, c4, hfr⟩ := id hbox3
            have hfr0 := hfr 0
            have hfr1 := hfr 1
            have hfr2 := hfr 2
            have hfr3 := hfr 3
            have hfr4 := hfr 4
            have hbox5 := hbox3.put5 (.int .i64 (stepC ck y).pol) (.int .i64 (stepC ck y).size) (.slice pa3 pn3 pc3) (.slice ma3 mn3 mc3) (.int .i64 (stepC ck y).hand)
            have hcb := (Chg.refl (fun q => q = w2.heap.size) w3).put5 (b := w2.heap.size) (fun _ => rfl) (.int .i64 (stepC ck y).pol) (.int .i64 (stepC ck y).size) (.slice pa3 pn3 pc3) (.slice ma3 mn3 mc3) (.int .i64 (stepC ck y).hand)
            have hp5 := hp3.step hcb (fun q hq => hq ▸ hNB)
            have hm5 := hm3.step hcb (fun q hq => hq ▸ hNB)
            have hch5 := (hch1.keep hk3).step hcb (fun q hq hl => by omega)
            have hB5 := (hB1.keep hk3).keep hcb
            go_wp2_with fail
            go_roundw
            case measure => simp [intOf]; omega
            case rel => exact ⟨j + 1, .slice pa3 pn3 pc3, .slice ma3 mn3 mc3, B, hlt, by go_num, by rw [HS1.out], hNB, hB5, hno.succ HBK.out, by rw [HR.out]; exact hbox5, hp5, hm5, hch5⟩
          · have HBK := Lib.hid hbk
            clear hbk hcl
            have e := firstN_hit (n := l.length) hno hlt HBK.out
            have HE := Lib.hid e
            clear e
            go_wp2_with fail
            go_ret2
            exact ⟨_, _, rfl, by rw [HA.out, HE.out]; rfl, by rw [HA.out, HE.out]; rfl, hcw⟩
      · have hj' : j = l.length := by omega
        subst hj'
        have e := firstN_none (n := l.length) hno
        have HE : Hid (markV n p k l = none) := Lib.hid (by rw [HA.out, e])
        clear hc e
        go_wp2_with fail
        go_ret2
        exact ⟨_, _, rfl, by rw [HE.out]; rfl, by rw [HE.out]; rfl, ch2.keep hch⟩
end Go.Proofs.YtmfhlojmoehmiaaGreat

/- MarkingBreak of the program -/
namespace Go.Proofs.YtmfhlojmoehmiaaGreat
open Go.RowKit

theorem cfMark1 (x : Int) (c0 : Value) (w : World) : (callFunc 105 #[.int .i64 x, c0]).run Tryz.prog w = .ok (.enter 105 #[.int .i64 x, c0]) w := by kernel_rfl
set_option maxHeartbeats 400000 in
theorem mark11_any (A : Nat → Prop) (x : Int) (b : Nat) (v : Value) (l : List Int) (w : World) (hc : w.cell? ⟨b, 0, none⟩ = some v) (h : RI A w v l) :
    Calls Tryz.prog 105 #[.int .i64 x, .pointer (some ⟨b, 0, none⟩)] w fun e w' => e = .returned (.bool (hasB l x)) ∧ w = w' := by
  obtain ⟨a, n, c, rfl⟩ := h.shape
  go_enter Tryz.func105, Tryz.ntmps105
  go_wp2_with fail
  refine (Contains_any A _ l x w h).mono ?_
  rintro e w' ⟨rfl, rfl⟩
  go_wp2_with fail
  go_ret
  exact ⟨rfl, rfl⟩

/-- what the closure makes of its result so far -/
def outN (o : Int) (j : Nat) (t : Bool) : Int := if o < 0 ∧ t = true then (j : Int) else o
set_option maxRecDepth 100000 in
set_option maxHeartbeats 2000000 in
theorem mark1_any (A : Nat → Prop) (k : Int) (l : List Int) (j : Nat) (bp br bo : Nat) (pv v xb xa : Value) (lb la : List Int) (o : Int) (fb : Bool) (w : World) (hj : j < l.length) (_hl : l.length ≤ 1000000)
    (hcp : w.cell? ⟨bp, 0, none⟩ = some pv) (hp : RI No w pv (phF k l l.length)) (hcr : w.cell? ⟨br, 0, none⟩ = some v) (hv : RI No w v l) (hco : w.cell? ⟨bo, 0, none⟩ = some (.int .i64 o)) (hfo : w.frozen? ⟨bo, 0, none⟩ = false)
    (hxb : RI A w xb lb) (hxa : RI A w xa la) :
    Calls Tryz.prog 102 #[.int .i64 (j : Int), xb, xa, .bool fb, .pointer (some ⟨bp, 0, none⟩), .pointer (some ⟨br, 0, none⟩), .pointer (some ⟨bo, 0, none⟩)] w
      (Ret fun v' w' => v' = .tuple #[] ∧ w'.cell? ⟨bo, 0, none⟩ = some (.int .i64 (outN o j (comB (diffL (stay (hasB la) lb)) ((l.take j).drop (startP k l (j + 1)))))) ∧ w'.frozen? ⟨bo, 0, none⟩ = false ∧ Chg (fun q => q = bo) w w') := by
  have hlast := lastLE_phF k l j l.length hj
  have hsl := startP_lt k l j
  obtain ⟨s, hs⟩ : ∃ s, startP k l (j + 1) = s := ⟨_, rfl⟩
  rw [hs] at hlast hsl ⊢
  have hpl := phF_len k l l.length
  obtain ⟨ph, hph⟩ : ∃ ph, phF k l l.length = ph := ⟨_, rfl⟩
  rw [hph] at hp hlast hpl
  have HL := Lib.hid hlast
  obtain ⟨pa, pc, rfl, _⟩ := id hp
  obtain ⟨ra, rc, rfl, _⟩ := id hv
  obtain ⟨b1, b2, b3, rfl⟩ := hxb.shape
  obtain ⟨a1, a2, a3, rfl⟩ := hxa.shape
  have hbo := World.block_lt_of_cell? w _ hco
  simp only at hbo
  have hj0 : (0 : Int) ≤ (j : Int) := Int.natCast_nonneg _
  clear hlast hs hph
  go_enter Tryz.func102, Tryz.ntmps102
  go_wp2_with fail
  go_loop [11, 17] (fun f i => ∃ c : Nat, c ≤ ph.length ∧ i = .int .i64 c ∧ f = .int .i64 (lastLE j (ph.take c))) (fun _ i => ph.length - (intOf i).toNat)
  case atStart => exact ⟨0, Nat.zero_le _, rfl, rfl⟩
  case round =>
    obtain ⟨c, hc, rfl, rfl⟩ := hrel
    have hc0 : (0 : Int) ≤ (c : Int) := Int.natCast_nonneg _
    by_cases hct : c < ph.length
    · have hc1 : (c : Int) < (ph.length : Int) := by omega
      obtain ⟨b, off, rfl, _, _, hcell⟩ := hp.cellAt (by intro e; simp [e] at hct)
      have hck := hcell c hct
      have hsn := lastLE_take j ph c hct
      have hgy : ph.getD c 0 = ph[c] := by rw [List.getD_eq_getElem?_getD, List.getElem?_eq_getElem hct]; rfl
      obtain ⟨z, hz⟩ : ∃ z, ph[c] = z := ⟨_, rfl⟩
      rw [hgy, hz] at hck
      rw [hz] at hsn
      obtain ⟨f0, hf0⟩ : ∃ f0, lastLE j (ph.take c) = f0 := ⟨_, rfl⟩
      rw [hf0] at hsn ⊢
      have hw1 : IntKind.i64.wrap ((c : Int) + 1) = (c : Int) + 1 := IntWalk.i64_in _ (by omega)
      by_cases hzj : z ≤ (j : Int)
      · have HS : Hid (lastLE j (ph.take (c + 1)) = z) := Lib.hid (by rw [hsn, if_pos hzj])
        clear hcell hsn hgy hz hf0
        go_wp2_with fail
        go_round
        case rel => exact ⟨c + 1, hct, by go_num, by rw [HS.out]⟩
        case measure => simp [intOf]; omega
      · have HS : Hid (lastLE j (ph.take (c + 1)) = f0) := Lib.hid (by rw [hsn, if_neg hzj])
        clear hcell hsn hgy hz hf0
        go_wp2_with fail
        go_round
        case rel => exact ⟨c + 1, hct, by go_num, by rw [HS.out]⟩
        case measure => simp [intOf]; omega
    · have hce : c = ph.length := by omega
      subst hce
      rw [List.take_length, HL.out]
      obtain ⟨x, hx, hRx⟩ := hv.mid s j (s : Int) (j : Int) rfl rfl hsl (by omega)
      obtain ⟨x1, x2, x3, rfl⟩ := hRx.shape
      have k0 := (Chg.refl No w).alloc (.cells #[.slice x1 x2 x3] 23)
      have hca : (w.alloc (.cells #[.slice x1 x2 x3] 23)).cell? ⟨w.heap.size, 0, none⟩ = some (.slice x1 x2 x3) := by rw [World.cell?_alloc_new]; rfl
      have hco1 := (k0.cellD bo 0 hbo (fun e => e)).trans hco
      have hfo1 := (k0.frozenD bo 0 hbo (fun e => e)).trans hfo
      obtain ⟨g, hg⟩ : ∃ g, diffL (stay (hasB la) lb) = g := ⟨_, rfl⟩
      obtain ⟨asked, hak⟩ : ∃ asked, (l.take j).drop s = asked := ⟨_, rfl⟩
      rw [hak] at hRx
      have HG := Lib.hid hg
      have HAK := Lib.hid hak
      by_cases hoz : o < 0
      · clear hg hak
        go_wp2_with fail
        refine (goneBy_any A _ _ lb la _ (hxb.keep k0) (hxa.keep k0)).mono ?_
        rintro e w1 ⟨v1, rfl, o1, k1⟩
        rw [HG.out] at o1
        obtain ⟨g1, g2, g3, rfl⟩ := o1.shape
        have hb1 : w.heap.size < (w.alloc (.cells #[.slice x1 x2 x3] 23)).heap.size := by simp
        have hca1 := (k1.cellD w.heap.size 0 hb1 (fun e => e)).trans hca
        have hb2 := Nat.lt_of_lt_of_le hbo k0.size
        have hco2 := (k1.cellD bo 0 hb2 (fun e => e)).trans hco1
        have hfo2 := (k1.frozenD bo 0 hb2 (fun e => e)).trans hfo1
        have k2 := k0.keep k1
        have hR1 := hRx.keep k2
        clear hca hco1 hfo1
        go_wp2_with fail
        refine (ContainsFunc_any No _ g w1 o1.readNo 105 (.pointer (some ⟨w.heap.size, 0, none⟩)) (hasB asked) (fun x w => cfMark1 x _ w) (fun x _ => mark11_any No x _ _ asked w1 hca1 hR1)).mono ?_
        rintro e w2 ⟨rfl, rfl⟩
        have HCB : Hid (g.any (hasB asked) = comB g asked) := Lib.hid rfl
        rw [HCB.out]
        cases hcb : comB g asked
        · have HO : Hid (outN o j false = o) := Lib.hid (by unfold outN; rw [if_neg (by simp)])
          have HCV := Lib.hid hcb
          clear hcb
          dsimp only
          go_wp2_with fail
          go_end0
          exact ⟨_, rfl, rfl, by rw [HG.out, HAK.out, HCV.out, HO.out]; exact hco2, hfo2, k2.mono (fun q e _ => e.elim)⟩
        · have HO : Hid (outN o j true = (j : Int)) := Lib.hid (by unfold outN; rw [if_pos ⟨hoz, rfl⟩])
          have HCV := Lib.hid hcb
          clear hcb
          dsimp only
          go_wp2_with fail
          go_end0
          exact ⟨_, rfl, rfl, by rw [HG.out, HAK.out, HCV.out, HO.out]; exact World.cell?_setCell_same _ _ _ hco2, (World.frozen?_setCell _ _ _ _).trans hfo2, (k2.mono (T := fun q => q = bo) (fun q e _ => e.elim)).setCell (fun _ => rfl) _⟩
      · have HO : Hid (outN o j (comB g asked) = o) := Lib.hid (by unfold outN; rw [if_neg (fun e => hoz e.1)])
        clear hg hak
        go_wp2_with fail
        go_end0
        exact ⟨_, rfl, rfl, by rw [HG.out, HAK.out, HO.out]; exact hco1, hfo1, k0.mono (fun q e _ => e.elim)⟩

def outOf : Option Nat → Int
  | some i => (i : Int)
  | none => -1
theorem outOf_succ (p : Nat → Bool) (j : Nat) : outN (outOf (firstN p j)) j (p j) = outOf (firstN p (j + 1)) := by
  have e : firstN p (j + 1) = match firstN p j with
    | some i => some i
    | none => if p j then some j else none := rfl
  rw [e]
  unfold outN
  cases h : firstN p j with
  | some i =>
    have : ¬ ((i : Int) < 0) := by omega
    simp [outOf, this]
  | none => cases hp : p j <;> simp [outOf]
structure JM (p k : Int) (l : List Int) (base bp br bo : Nat) (pv v : Value) (j : Nat) (U : Nat → Prop) (w : World) : Prop where
  cp : w.cell? ⟨bp, 0, none⟩ = some pv
  rp : RI (fun q => base ≤ q ∨ q = bo) w pv (phF k l l.length)
  cr : w.cell? ⟨br, 0, none⟩ = some v
  rr : RI (fun q => base ≤ q ∨ q = bo) w v l
  co : w.cell? ⟨bo, 0, none⟩ = some (.int .i64 (outOf (firstN (breakB p k l) j)))
  fo : w.frozen? ⟨bo, 0, none⟩ = false
  us : ∀ q, U q ↔ q = bo
  lp : bp < base
  lr : br < base
  lo : bo < base
  np : bp ≠ bo
  nr : br ≠ bo
theorem JM.step {p k : Int} {l : List Int} {base bp br bo : Nat} {pv v : Value} {j : Nat} {U S : Nat → Prop} {w w' : World} (h : JM p k l base bp br bo pv v j U w) (hc : Chg S w w') (_hs : ∀ q, U q → ¬ S q) (hb : ∀ q, S q → base ≤ q) : JM p k l base bp br bo pv v j U w' := by
  have l1 := World.block_lt_of_cell? w _ h.cp
  have l2 := World.block_lt_of_cell? w _ h.cr
  have l3 := World.block_lt_of_cell? w _ h.co
  have s1 : ¬ S bp := fun e => by have := hb _ e; have := h.lp; omega
  have s2 : ¬ S br := fun e => by have := hb _ e; have := h.lr; omega
  have s3 : ¬ S bo := fun e => by have := hb _ e; have := h.lo; omega
  exact ⟨(hc.cellD bp 0 l1 s1).trans h.cp, h.rp.step hc (fun q hq => .inl (hb q hq)), (hc.cellD br 0 l2 s2).trans h.cr, h.rr.step hc (fun q hq => .inl (hb q hq)), (hc.cellD bo 0 l3 s3).trans h.co, (hc.frozenD bo 0 l3 s3).trans h.fo, h.us, h.lp, h.lr, h.lo, h.np, h.nr⟩
theorem JM.each {p k : Int} (hok : Ok (newC p k)) (l : List Int) (hl : l.length ≤ 1000000) (base bp br bo : Nat) (pv v : Value) :
    Each3 102 (.pointer (some ⟨bp, 0, none⟩)) (.pointer (some ⟨br, 0, none⟩)) (.pointer (some ⟨bo, 0, none⟩)) base (newC p k) l (JM p k l base bp br bo pv v) where
  lt := fun j U w h q hq => by
    rw [(h.us q).1 hq]; exact World.block_lt_of_cell? w _ h.co
  keep := fun j U w w' S h hc hs hb => h.step hc hs hb
  call := fun j U w xb xa hj h hxb hxa => by
    refine (mark1_any U k l j bp br bo pv v xb xa _ _ _ _ w hj hl h.cp (h.rp.weak (fun _ e _ => e.elim)) h.cr (h.rr.weak (fun _ e _ => e.elim)) h.co h.fo hxb hxa).mono ?_
    rintro e w' ⟨v', rfl, rfl, c1, f1, k1⟩
    rw [break_gone hok l j hj, outOf_succ] at c1
    have l1 := World.block_lt_of_cell? w _ h.cp
    have l2 := World.block_lt_of_cell? w _ h.cr
    exact ⟨_, rfl, rfl, U, ⟨(k1.cellD bp 0 l1 h.np).trans h.cp, h.rp.step k1 (fun q hq => .inr hq), (k1.cellD br 0 l2 h.nr).trans h.cr, h.rr.step k1 (fun q hq => .inr hq), c1, f1, h.us, h.lp, h.lr, h.lo, h.np, h.nr⟩, k1.mono (fun q hq _ => (h.us q).2 hq), fun q hq => .inl hq⟩
theorem cfMark (x0 x1 x2 x3 c1 c2 c3 : Value) (w : World) : (callFunc 102 #[x0, x1, x2, x3, c1, c2, c3]).run Tryz.prog w = .ok (.enter 102 #[x0, x1, x2, x3, c1, c2, c3]) w := by kernel_rfl

set_option maxRecDepth 100000 in
set_option maxHeartbeats 2000000 in
theorem implMarkingBreak_any (n p k : Int) (v : Value) (l : List Int) (w : World) (hv : RI No w v l) :
    Calls Tryz.prog 49 #[.int .i64 n, .int .i64 p, .int .i64 k, v] w (Ret2 fun v0 v1 w' => v0 = .int .i64 (idxOr0 (markV n p k l)) ∧ v1 = .bool (markV n p k l).isSome ∧ Chg No w w') := by
  obtain ⟨ra, rc, rfl, _⟩ := id hv
  have k0 := (Chg.refl No w).alloc (.cells #[.slice ra l.length rc] 23)
  have hcr : (w.alloc (.cells #[.slice ra l.length rc] 23)).cell? ⟨w.heap.size, 0, none⟩ = some (.slice ra l.length rc) := by rw [World.cell?_alloc_new]; rfl
  have hz0 : w.heap.size < (w.alloc (.cells #[.slice ra l.length rc] 23)).heap.size := by simp
  cases hh : askedB n p k l
  · have HA : Hid (markV n p k l = none) := Lib.hid (by unfold markV; rw [hh]; rfl)
    have HH := Lib.hid hh
    clear hh
    go_enter Tryz.func49, Tryz.ntmps49
    go_wp2_with fail
    refine (isRun_any No _ l n p k _ (hv.keep k0)).mono ?_
    rintro e w1 ⟨v1, rfl, rfl, k1⟩
    rw [show (inB p 1 7 && inB k 1 6 && (inB n 1 8 && decide (l.length ≤ 60) && belowB n l)) = false from HH.out]
    go_wp2_with fail
    go_ret2
    exact ⟨_, _, rfl, by rw [HA.out]; rfl, by rw [HA.out]; rfl, k0.keep k1⟩
  · have HA : Hid (markV n p k l = firstN (breakB p k l) l.length) := Lib.hid (by unfold markV; rw [hh]; rfl)
    have hok := askedB_ok hh
    have hl60 : l.length ≤ 1000000 := by
      simp only [askedB, Bool.and_eq_true, decide_eq_true_eq] at hh
      omega
    have HH := Lib.hid hh
    clear hh
    go_enter Tryz.func49, Tryz.ntmps49
    go_wp2_with fail
    refine (isRun_any No _ l n p k _ (hv.keep k0)).mono ?_
    rintro e w1 ⟨v1, rfl, rfl, k1⟩
    rw [show (inB p 1 7 && inB k 1 6 && (inB n 1 8 && decide (l.length ≤ 60) && belowB n l)) = true from HH.out]
    have hcr1 := (k1.cellD w.heap.size 0 hz0 (fun e => e)).trans hcr
    have k01 := k0.keep k1
    clear hcr
    go_wp2_with fail
    refine (phasesOf_any No k _ l w1 (hv.keep k01) hl60).mono ?_
    rintro e w2 ⟨v2, rfl, o2, k2⟩
    have hz1 : w.heap.size < w1.heap.size := Nat.lt_of_lt_of_le hz0 k1.size
    have hcr2 := (k2.cellD w.heap.size 0 hz1 (fun e => e)).trans hcr1
    have hz2 : w.heap.size < w2.heap.size := Nat.lt_of_lt_of_le hz1 k2.size
    have k02 := k01.keep k2
    obtain ⟨pa, pn, pc, rfl⟩ := o2.shape
    have kA := (Chg.refl No w2).alloc (.cells #[.slice pa pn pc] 23)
    have kB := kA.alloc (.cells #[.int .i64 (-1)] 3)
    have hcr3 := (kB.cellD w.heap.size 0 hz2 (fun e => e)).trans hcr2
    clear hcr1 hcr2
    go_wp2_with fail
    have hsz : w2.heap.size + 1 = (w2.alloc (.cells #[.slice pa pn pc] 23)).heap.size := (World.size_alloc ..).symm
    have hsz0 : ((w2.alloc (.cells #[.slice pa pn pc] 23)).alloc (.cells #[.int .i64 (-1)] 3)).heap.size = w2.heap.size + 2 := by simp
    have hJ0 : JM p k l ((w2.alloc (.cells #[.slice pa pn pc] 23)).alloc (.cells #[.int .i64 (-1)] 3)).heap.size w2.heap.size w.heap.size (w2.heap.size + 1) (.slice pa pn pc) (.slice ra l.length rc) 0 (fun q => q = w2.heap.size + 1) ((w2.alloc (.cells #[.slice pa pn pc] 23)).alloc (.cells #[.int .i64 (-1)] 3)) := by
      refine ⟨(((Chg.refl No _).alloc _).cellD w2.heap.size 0 (by simp) (fun e => e)).trans (by rw [World.cell?_alloc_new]; rfl), o2.readNo.to kB (fun _ e => e.elim) (fun q hq => .inr (by rcases hq with h | h <;> omega)), hcr3, (hv.keep k02).to kB (fun _ e => e.elim) (fun q hq => .inr (by rcases hq with h | h <;> omega)), ?_, ?_, fun q => Iff.rfl, by omega, by omega, by omega, by omega, by omega⟩
      · rw [hsz, World.cell?_alloc_new]; rfl
      · rw [hsz]; exact World.frozen?_alloc_new _ _ _ _
    refine (run3_any 102 (.pointer (some ⟨w2.heap.size, 0, none⟩)) (.pointer (some ⟨w.heap.size, 0, none⟩)) (.pointer (some ⟨w2.heap.size + 1, 0, none⟩)) p k _ l _ _ _ (JM.each hok l hl60 _ w2.heap.size w.heap.size (w2.heap.size + 1) (.slice pa pn pc) (.slice ra l.length rc)) hJ0 (fun x0 x1 x2 x3 w => cfMark x0 x1 x2 x3 _ _ _ w) ((hv.keep k02).to kB (fun _ e => e.elim) (fun q hq => .inr (by omega))) hok).mono ?_
    rintro e w3 ⟨v3, rfl, rfl, U, hJ, hch, _⟩
    have kk : Chg No w w3 := (k02.keep kB).step hch (fun q hq hl => by omega)
    have hco := hJ.co
    clear hJ hJ0 hsz hsz0 hcr3 hch kA kB
    cases hf : firstN (breakB p k l) l.length with
    | none =>
      have HE : Hid (markV n p k l = none) := Lib.hid (by rw [HA.out, hf])
      rw [hf] at hco
      simp only [outOf] at hco
      clear hf
      go_wp2_with fail
      go_ret2
      exact ⟨_, _, rfl, by rw [HE.out]; rfl, by rw [HE.out]; rfl, kk⟩
    | some i =>
      have HE : Hid (markV n p k l = some i) := Lib.hid (by rw [HA.out, hf])
      rw [hf] at hco
      simp only [outOf] at hco
      have hi0 : ¬ ((i : Int) < 0) := by omega
      clear hf
      go_wp2_with fail
      go_ret2
      exact ⟨_, _, rfl, by rw [HE.out]; rfl, by rw [HE.out]; rfl, kk⟩
end Go.Proofs.YtmfhlojmoehmiaaGreat

/- the laws' own comparisons: vInts, vHas, vTable, vCache -/
namespace Go.Proofs.YtmfhlojmoehmiaaGreat
open Go.RowKit

set_option maxRecDepth 100000 in
set_option maxHeartbeats 1000000 in
theorem vInts_same (A B : Nat → Prop) (v v' : Value) (l : List Int) (w : World) (h : RI A w v l) (h' : RI B w v' l) :
    Calls Tryz.prog 55 #[v, v'] w (Ret fun r w' => r = .bool true ∧ Chg No w w') := by
  have hL := h.len
  obtain ⟨a, cap, rfl, hcap, hmax, hlen, _, hc⟩ := id h
  obtain ⟨a', cap', rfl, hcap', hmax', hlen', _, hc'⟩ := id h'
  go_enter Tryz.func55, Tryz.ntmps55
  go_wp2_with fail
  go_loopw [5] (fun i wr => ∃ j : Nat, j ≤ l.length ∧ i = .int .i64 j ∧ Chg No w wr) (fun i _ => l.length - (intOf i).toNat)
  case atStart => exact ⟨0, Nat.zero_le _, rfl, Chg.refl No w⟩
  case round =>
    obtain ⟨j, hj, rfl, hch⟩ := hrel
    by_cases hlt : j < l.length
    · obtain ⟨b, off, rfl, _, hb, hcell⟩ := hc (by intro e; simp [e] at hlt)
      obtain ⟨b', off', rfl, _, hb', hcell'⟩ := hc' (by intro e; simp [e] at hlt)
      have hcl := (hch.cellD b (off + j) hb (fun e => e)).trans (hcell j hlt)
      have hcl' := (hch.cellD b' (off' + j) hb' (fun e => e)).trans (hcell' j hlt)
      obtain ⟨y, hy⟩ : ∃ y, l.getD j 0 = y := ⟨_, rfl⟩
      rw [hy] at hcl hcl'
      have hj0 : (0 : Int) ≤ (j : Int) := Int.natCast_nonneg _
      have hj1 : (j : Int) < (l.length : Int) := by omega
      have hw1 : IntKind.i64.wrap ((j : Int) + 1) = (j : Int) + 1 := IntWalk.i64_in _ (by omega)
      clear hcell hcell' hc hc' hy
      go_wp2_with fail
      go_quiet (fail)
      have hd := (Chg.refl No wr).drewN nq
      have hch := hch.keep hd
      clear hcl hcl'
      generalize wr.drewN nq = W at hd hch ⊢
      go_wp2_with fail
      go_round
      case rel => exact ⟨j + 1, hlt, by go_num, hch⟩
      case measure => simp [intOf]; omega
    · have hj' : j = l.length := by omega
      subst hj'
      clear hc hc'
      go_wp2_with fail
      go_ret
      exact ⟨_, rfl, rfl, hch⟩

set_option maxRecDepth 100000 in
set_option maxHeartbeats 1000000 in
theorem vInts_qt (A B : Nat → Prop) (v v' : Value) (l : List Int) (w : World) (h : RI A w v l) (h' : RI B w v' l) :
    Calls Tryz.prog 55 #[v, v'] w fun e w' => e = .returned (.bool true) ∧ Qt w w' := by
  have hL := h.len
  obtain ⟨a, cap, rfl, hcap, hmax, hlen, _, hc⟩ := id h
  obtain ⟨a', cap', rfl, hcap', hmax', hlen', _, hc'⟩ := id h'
  go_enter Tryz.func55, Tryz.ntmps55
  go_wp2_with fail
  go_loopw [5] (fun i wr => ∃ j : Nat, j ≤ l.length ∧ i = .int .i64 j ∧ Qt w wr) (fun i _ => l.length - (intOf i).toNat)
  case atStart => exact ⟨0, Nat.zero_le _, rfl, Qt.refl w⟩
  case round =>
    obtain ⟨j, hj, rfl, hq⟩ := hrel
    have hch := hq.chg
    by_cases hlt : j < l.length
    · obtain ⟨b, off, rfl, _, hb, hcell⟩ := hc (by intro e; simp [e] at hlt)
      obtain ⟨b', off', rfl, _, hb', hcell'⟩ := hc' (by intro e; simp [e] at hlt)
      have hcl := (hch.cellD b (off + j) hb (fun e => e)).trans (hcell j hlt)
      have hcl' := (hch.cellD b' (off' + j) hb' (fun e => e)).trans (hcell' j hlt)
      obtain ⟨y, hy⟩ : ∃ y, l.getD j 0 = y := ⟨_, rfl⟩
      rw [hy] at hcl hcl'
      have hj0 : (0 : Int) ≤ (j : Int) := Int.natCast_nonneg _
      have hj1 : (j : Int) < (l.length : Int) := by omega
      have hw1 : IntKind.i64.wrap ((j : Int) + 1) = (j : Int) + 1 := IntWalk.i64_in _ (by omega)
      clear hcell hcell' hc hc' hy
      go_wp2_with fail
      go_quiet (fail)
      go_wp2_with fail
      go_round
      case rel => exact ⟨j + 1, hlt, by go_num, hq.trans ⟨_, rfl⟩⟩
      case measure => simp [intOf]; omega
    · have hj' : j = l.length := by omega
      subst hj'
      clear hc hc'
      go_wp2_with fail
      go_ret
      exact ⟨rfl, hq⟩

set_option maxHeartbeats 400000 in
theorem vHas_any (A : Nat → Prop) (v : Value) (l : List Int) (n : Int) (w : World) (h : RI A w v l) :
    Calls Tryz.prog 47 #[v, .int .i64 n] w fun e w' => e = .returned (.bool (hasB l n)) ∧ w = w' := by
  obtain ⟨a, cap, rfl, hcap, hmax, hlen, _, hc⟩ := h
  go_enter Tryz.func47, Tryz.ntmps47
  go_wp2
  go_loop [4, 5] (fun r i => ∃ k : Nat, k ≤ l.length ∧ i = .int .i64 k ∧ r = .bool false ∧ hasB (l.take k) n = false) (fun _ i => l.length - (intOf i).toNat)
  case atStart => exact ⟨0, Nat.zero_le _, rfl, rfl, rfl⟩
  case round =>
    obtain ⟨k, hk, rfl, rfl, hh⟩ := hrel
    have H := Lib.hid hh
    clear hh
    by_cases hlt : k < l.length
    · obtain ⟨b, off, rfl, _, _, hcell⟩ := hc (by intro e; simp [e] at hlt)
      have hck := hcell k hlt
      have hs := Lib.hid (hasB_snoc l n k hlt)
      go_wp2
      · go_ret
        have h : (l[k] == n) = true := by assumption
        have h1 : hasB l n = true := by
          unfold hasB
          rw [List.contains_iff_mem, ← beq_iff_eq.1 h]
          exact List.getElem_mem hlt
        exact ⟨ret_bool h1.symm, rfl⟩
      · have h : (l[k] == n) = false := by assumption
        go_round
        case rel => exact ⟨k + 1, by omega, by go_num, rfl, by rw [hs.out, H.out, h]; rfl⟩
        case measure => simp [intOf]; omega
    · have hkl : k = l.length := by omega
      go_wp2
      go_ret
      subst hkl
      exact ⟨ret_bool (by have := H.out; rw [List.take_length] at this; exact this.symm), rfl⟩

set_option maxRecDepth 100000 in
set_option maxHeartbeats 1000000 in
theorem vCache_same (A B : Nat → Prop) (v v' : Value) (c : Ca) (w : World) (h : RC A w v c) (h' : RC B w v' c) :
    Calls Tryz.prog 82 #[v, v'] w (Ret fun r w' => r = .bool true ∧ Chg No w w') := by
  obtain ⟨pv, mv, rfl, hp, hmk⟩ := h
  obtain ⟨pv', mv', rfl, hp', hmk'⟩ := h'
  obtain ⟨pa, pn, pc, rfl⟩ := hp.shape
  obtain ⟨ma, mn, mc, rfl⟩ := hmk.shape
  obtain ⟨pa', pn', pc', rfl⟩ := hp'.shape
  obtain ⟨ma', mn', mc', rfl⟩ := hmk'.shape
  go_enter Tryz.func82, Tryz.ntmps82
  go_wp2_with fail
  refine boxes2 (R := fun W => Calls _ _ _ W _) (fun W hW b0 b1 => ?_)
  refine (vInts_same A B _ _ _ W (hp.keep hW) (hp'.keep hW)).mono ?_
  rintro e w1 ⟨_, rfl, rfl, k1⟩
  have b0 := b0.keep k1
  have b1 := b1.keep k1
  have hW := hW.keep k1
  obtain ⟨c0, c1, c2, c3, c4, _⟩ := id b0
  obtain ⟨d0, d1, d2, d3, d4, _⟩ := id b1
  go_wp2_with fail
  refine (vInts_same A B _ _ _ _ (hmk.keep hW) (hmk'.keep hW)).mono ?_
  rintro e w2 ⟨_, rfl, rfl, k2⟩
  have b0 := b0.keep k2
  have b1 := b1.keep k2
  have hW := hW.keep k2
  clear c0 c1 c2 c3 c4 d0 d1 d2 d3 d4
  obtain ⟨c0, c1, c2, c3, c4, _⟩ := id b0
  obtain ⟨d0, d1, d2, d3, d4, _⟩ := id b1
  go_wp2_with fail
  go_ret
  exact ⟨_, rfl, rfl, hW⟩

end Go.Proofs.YtmfhlojmoehmiaaGreat

/- two arrays of two numbers compared -/
namespace Go.Proofs.YtmfhlojmoehmiaaGreat
open Go.RowKit

theorem eqA2_run (x y : Int) (w : World) : (Op.equalIn 10000 80 (.agg #[.int .i64 x, .int .i64 y]) (.agg #[.int .i64 x, .int .i64 y])).run Tryz.prog w = .ok true w := by
  obtain ⟨i0, hi, hz0, hz1, hz2⟩ := info_parts Tryz.infoInt
  have hc : Tryz.prog.cellsOf 3 = 1 := by kernel_rfl
  rw [run_equalIn_array w 9999 _ _ Tryz.underlying80 hi, hc]
  simp [Op.eqItems, List.range, List.range.loop, go_sem]
end Go.Proofs.YtmfhlojmoehmiaaGreat

/- FnPhases: the law -/
namespace Go.Proofs.YtmfhlojmoehmiaaGreat
open Go.RowKit

set_option maxRecDepth 100000 in
theorem DrawMarking_any (v : Value) (n : Nat) (w : World) (h : Code w v n) (hn : n ≤ 70001) :
    Calls Tryz.prog 48 #[v] w fun e w' => ∃ (m p k : Int) (rv : Value) (l : List Int), e = .returned (.tuple #[.int .i64 m, .int .i64 p, .int .i64 k, rv]) ∧ OI w.heap.size w' rv l ∧ l.length ≤ 62 ∧ Chg No w w' := by
  obtain ⟨a, cp, rfl⟩ := h.shape
  go_enter Tryz.func48, Tryz.ntmps48
  go_wp2_with fail
  refine (DrawIncl_any _ _ _ h hn).mono ?_
  rintro e w1 ⟨m, p, k, rv, l, rfl, ho, hl, k1⟩
  go_wp2_with fail
  refine bodyPost_ret (v := .tuple #[.int .i64 m, .int .i64 p, .int .i64 k, rv]) (by simp [results, Tryz.results48, go_sem]) rfl ?_
  exact ⟨m, p, k, rv, l, rfl, ho, hl, k1⟩
/-- the three policies that the law looks at -/
def three (q : Nat) : Int := if q = 0 then 1 else if q = 1 then 2 else 4
theorem three_at {q : Nat} (_h : q < 3) : three q = 1 ∨ three q = 2 ∨ three q = 4 := by
  unfold three
  split
  · exact .inl rfl
  · split
    · exact .inr (.inl rfl)
    · exact .inr (.inr rfl)
theorem phase_three {k n : Int} {l : List Int} (hp : pagB k n l = true) {q : Nat} (hq : q < 3) {i : Nat} (hi : i < (phF k l l.length).length) :
    ∃ a b : Nat, (phF k l l.length).getD i 0 = (a : Int) ∧ (if i + 1 < (phF k l l.length).length then (phF k l l.length).getD (i + 1) 0 else (l.length : Int)) = (b : Int) ∧ b ≤ l.length ∧ a ≤ b ∧ ((betw (places (newC (three q) k) l) (a : Int) ((b : Int) - 1) : Nat) : Int) ≤ k := by
  obtain ⟨h1, _⟩ := pagB_facts hp
  have hkt : 0 < k.toNat := by omega
  have key : ∀ p : Int, (p = 1 ∨ p = 2 ∨ p = 4) → ∃ a b : Nat, (phF k l l.length).getD i 0 = (a : Int) ∧ (if i + 1 < (phF k l l.length).length then (phF k l l.length).getD (i + 1) 0 else (l.length : Int)) = (b : Int) ∧ b ≤ l.length ∧ a ≤ b ∧ betw (places (newC p k) l) (a : Int) ((b : Int) - 1) ≤ k.toNat := fun p hp => by
    rcases hp with rfl | rfl | rfl
    · exact phase_few h1.1 (cons_lru hkt) (inv_lru h1.1) l hi
    · exact phase_few h1.1 (cons_fifo hkt) (inv_fifo h1.1) l hi
    · exact phase_few h1.1 (cons_flush hkt) (inv_flush h1.1) l hi
  obtain ⟨a, b, g1, g2, g3, g4, g5⟩ := key _ (three_at hq)
  exact ⟨a, b, g1, g2, g3, g4, by omega⟩
theorem phases_facts {k n : Int} {l : List Int} (hp : pagB k n l = true) : ((phF k l l.length).length : Int) ≤ fewN k n l ∧ (∀ q, q < 3 → fewN k n l ≤ ((places (newC (three q) k) l).length : Int) ∧ ((places (newC (three q) k) l).length : Int) ≤ k * fewN k n l) ∧
    markV n 1 k l = none ∧ markV n 4 k l = none ∧ faultyV n 1 k l = none ∧ faultyV n 2 k l = none := by
  obtain ⟨h1, _⟩ := pagB_facts hp
  have hkt : 0 < k.toNat := by omega
  obtain ⟨g1, g2⟩ := fewN_ok hp
  obtain ⟨g3, g4⟩ := phases_few h1.1 g2
  refine ⟨by omega, fun q hq => ?_, mark_none (fun j hj => break_lru h1 l j hj), mark_none (fun j hj => break_flush h1 l j hj), faulty_none (fun j hj => part_few h1.1 (cons_lru hkt) (fun c D F h => h.any _) (inv_lru h1.1) l j hj),
    faulty_none (fun j hj => part_few h1.1 (cons_fifo hkt) (fun c D F h => h.any _) (inv_fifo h1.1) l j hj)⟩
  have h3 := three_at hq
  refine ⟨few_le hp (by omega), ?_⟩
  have := g4 _ h3
  rw [places_nf]
  have e : ((k.toNat * (fewN k n l).toNat : Nat) : Int) = k * fewN k n l := by
    rw [Int.natCast_mul, Int.toNat_of_nonneg (by omega), Int.toNat_of_nonneg g1]
  omega
theorem countTo_snoc (pl : List Int) (f : Int → Bool) (j : Nat) (hj : j < pl.length) : (pl.take (j + 1)).countP f = (pl.take j).countP f + (if f pl[j] then 1 else 0) := by
  rw [List.take_succ_eq_append_getElem hj, List.countP_append]
  cases h : f pl[j] <;> simp [h]
/-- how many of the first ones lie between -/
def manyTo (pl : List Int) (a b : Nat) (j : Nat) : Nat := (pl.take j).countP fun x => inB x (a : Int) ((b : Int) - 1)
theorem manyTo_le (pl : List Int) (a b j : Nat) : manyTo pl a b j ≤ j := by
  unfold manyTo
  refine Nat.le_trans List.countP_le_length ?_
  rw [List.length_take]; omega

set_option maxRecDepth 100000 in
set_option maxHeartbeats 8000000 in
theorem law_FnPhases (v : Value) (n : Nat) (w : World) (h : Code w v n) :
    Calls Tryz.prog 9 #[v] w fun e w' => e = .returned (.bool true) ∧ Chg No w w' := by
  obtain ⟨a, cp, rfl⟩ := h.shape
  go_enter Tryz.func9, Tryz.ntmps9
  go_wp2_with fail
  refine (vBig_any _ _ _ h).mono ?_
  rintro e w' ⟨rfl, rfl⟩
  by_cases hbig : (65536 : Int) < (n : Int)
  · go_wp2_with fail
    go_ret
    exact ⟨rfl, Chg.refl No _⟩
  · go_wp2_with fail
    refine (DrawMarking_any _ _ _ h (by omega)).mono ?_
    rintro e w1 ⟨m, p, k, rv, l, rfl, ho, hl, k1⟩
    have hr := ho.readNo
    clear ho
    go_wp2_with fail
    refine (implMarkingBreak_any m p k rv l w1 hr).mono ?_
    rintro e w2 ⟨_, _, rfl, rfl, rfl, k2⟩
    replace hr := hr.keep k2
    have kk := k1.keep k2
    obtain ⟨mi, hmi⟩ : ∃ mi, idxOr0 (markV m p k l) = mi := ⟨_, rfl⟩
    obtain ⟨mb, hmb⟩ : ∃ mb, (markV m p k l).isSome = mb := ⟨_, rfl⟩
    rw [hmi, hmb]
    have HMI := Lib.hid hmi
    have HMB := Lib.hid hmb
    clear hmi hmb k1 k2 h
    go_wp2_with fail
    refine (specMarkingBreak_any m p k rv l w2 hr).mono ?_
    rintro e w3 ⟨_, _, rfl, rfl, rfl, k3⟩
    rw [HMI.out, HMB.out]
    replace hr := hr.keep k3
    replace kk := kk.keep k3
    clear k3
    obtain ⟨fa, hfa⟩ : ∃ fa, prA (faultyV m p k l) = fa := ⟨_, rfl⟩
    obtain ⟨fb, hfb⟩ : ∃ fb, prB (faultyV m p k l) = fb := ⟨_, rfl⟩
    obtain ⟨fo, hfo⟩ : ∃ fo, (faultyV m p k l).isSome = fo := ⟨_, rfl⟩
    have HFA := Lib.hid hfa
    have HFB := Lib.hid hfb
    have HFO := Lib.hid hfo
    clear hfa hfb hfo
    go_wp2_with fail
    refine (implFaultyPart_any m p k rv l w3 hr).mono ?_
    rintro e w4 ⟨_, _, rfl, rfl, rfl, k4⟩
    rw [HFA.out, HFB.out, HFO.out]
    replace hr := hr.keep k4
    replace kk := kk.keep k4
    clear k4
    have kA := (Chg.refl No w4).alloc (.cells #[.int .i64 fa, .int .i64 fb] 80)
    have bA := BoxN.new w4 #[.int .i64 fa, .int .i64 fb] 80
    go_wp2_with fail
    generalize w4.alloc (.cells #[.int .i64 fa, .int .i64 fb] 80) = W4 at kA bA ⊢
    replace hr := hr.keep kA
    replace kk := kk.keep kA
    refine (specFaultyPart_any m p k rv l W4 hr).mono ?_
    rintro e w5 ⟨_, _, rfl, rfl, rfl, k5⟩
    rw [HFA.out, HFB.out, HFO.out]
    replace hr := hr.keep k5
    replace kk := kk.keep k5
    replace bA := bA.keep k5
    clear k5 kA
    have kB := (Chg.refl No w5).alloc (.cells #[.int .i64 fa, .int .i64 fb] 80)
    have bB := BoxN.new w5 #[.int .i64 fa, .int .i64 fb] 80
    go_wp2_with fail
    generalize w5.alloc (.cells #[.int .i64 fa, .int .i64 fb] 80) = W5 at kB bB ⊢
    replace hr := hr.keep kB
    replace kk := kk.keep kB
    replace bA := bA.keep kB
    refine (implPhases_any k m rv l W5 hr (by omega)).mono ?_
    rintro e w6 ⟨v6, _, rfl, o6, rfl, k6⟩
    obtain ⟨ph, hph⟩ : ∃ ph, phV k m l = ph := ⟨_, rfl⟩
    rw [hph] at o6
    have HPH := Lib.hid hph
    clear hph kB
    replace hr := hr.keep k6
    replace kk := kk.keep k6
    replace bA := bA.keep k6
    replace bB := bB.keep k6
    clear k6
    obtain ⟨a6, c6, rfl, _⟩ := id o6.view
    have r6 := o6.readNo
    clear o6
    go_wp2_with fail
    refine (specPhases_any k m rv l w6 hr (by omega)).mono ?_
    rintro e w7 ⟨v7, _, rfl, o7, rfl, k7⟩
    rw [HPH.out] at o7
    replace hr := hr.keep k7
    replace kk := kk.keep k7
    replace bA := bA.keep k7
    replace bB := bB.keep k7
    replace r6 := r6.keep k7
    clear k7
    obtain ⟨a7, c7, rfl, _⟩ := id o7.view
    have cA0 := bA.c 0 _ rfl
    have cA1 := bA.c 1 _ rfl
    have cB0 := bB.c 0 _ rfl
    have cB1 := bB.c 1 _ rfl
    have heq : ∀ W, (Op.equalIn 10000 80 (.agg #[.int .i64 fa, .int .i64 fb]) (.agg #[.int .i64 fa, .int .i64 fb])).run Tryz.prog W = .ok true W := eqA2_run fa fb
    go_wp2_with fail
    clear heq cA0 cA1 cB0 cB1
    refine (vInts_same No No _ _ ph w7 r6 o7.readNo).mono ?_
    rintro e w8 ⟨_, rfl, rfl, k8⟩
    replace hr := hr.keep k8
    replace kk := kk.keep k8
    replace r6 := r6.keep k8
    clear k8 o7 bA bB
    cases hp : pagB k m l
    · clear hp
      go_wp2_with fail
      go_ret
      exact ⟨rfl, kk⟩
    · obtain ⟨h1, h2, h3, h4⟩ := pagB_facts hp
      have hf0 := few_bound hp
      obtain ⟨pf1, pf2, pm1, pm2, pm3, pm4⟩ := phases_facts hp
      have hpe : ph = phF k l l.length := by rw [← HPH.out]; unfold phV; rw [hp]; rfl
      have hph3 := fun (q : Nat) (hq : q < 3) (i : Nat) (hi : i < (phF k l l.length).length) => phase_three hp hq hi
      rw [← hpe] at pf1 hph3
      obtain ⟨fv, hfv⟩ : ∃ fv, fewN k m l = fv := ⟨_, rfl⟩
      rw [hfv] at hf0 pf1 pf2
      have hfe : fewV k m l = fv := by unfold fewV; rw [hp]; exact hfv
      have HFV := Lib.hid hfe
      have HP := Lib.hid hp
      have HPF := Lib.hid pf2
      have HP3 := Lib.hid hph3
      have HM1 := Lib.hid pm1
      have HM2 := Lib.hid pm2
      have HM3 := Lib.hid pm3
      have HM4 := Lib.hid pm4
      clear hp hfe hfv h4 hpe hph3 pf2 pm1 pm2 pm3 pm4
      go_wp2_with fail
      refine (implMarkingBreak_any m 1 k rv l w8 hr).mono ?_
      rw [HM1.out]
      rintro e w9 ⟨_, _, rfl, rfl, rfl, k9⟩
      replace hr := hr.keep k9
      replace kk := kk.keep k9
      replace r6 := r6.keep k9
      clear k9
      go_wp2_with fail
      refine (implMarkingBreak_any m 4 k rv l w9 hr).mono ?_
      rw [HM2.out]
      rintro e w10 ⟨_, _, rfl, rfl, rfl, k9⟩
      replace hr := hr.keep k9
      replace kk := kk.keep k9
      replace r6 := r6.keep k9
      clear k9
      go_wp2_with fail
      refine (implFaultyPart_any m 1 k rv l w10 hr).mono ?_
      rw [HM3.out]
      rintro e w11 ⟨_, _, rfl, rfl, rfl, k9⟩
      replace hr := hr.keep k9
      replace kk := kk.keep k9
      replace r6 := r6.keep k9
      clear k9
      go_wp2_with fail
      generalize hW : w11.alloc _ = W11
      have k9 : Chg No w11 W11 := by rw [← hW]; exact (Chg.refl No w11).alloc _
      replace hr := hr.keep k9
      replace kk := kk.keep k9
      replace r6 := r6.keep k9
      clear k9 hW
      refine (implFaultyPart_any m 2 k rv l W11 hr).mono ?_
      rw [HM4.out]
      rintro e w12 ⟨_, _, rfl, rfl, rfl, k9⟩
      replace hr := hr.keep k9
      replace kk := kk.keep k9
      replace r6 := r6.keep k9
      clear k9
      go_wp2_with fail
      generalize hW : w12.alloc _ = W12
      have k9 : Chg No w12 W12 := by rw [← hW]; exact (Chg.refl No w12).alloc _
      replace hr := hr.keep k9
      replace kk := kk.keep k9
      replace r6 := r6.keep k9
      clear k9 hW
      refine (implFewest_any k m rv l W12 hr).mono ?_
      rw [HFV.out, HP.out]
      rintro e w13 ⟨_, _, rfl, rfl, rfl, k9⟩
      replace hr := hr.keep k9
      replace kk := kk.keep k9
      replace r6 := r6.keep k9
      clear k9
      have kL := (Chg.refl No w13).alloc (.cells #[.int .i64 1, .int .i64 2, .int .i64 4] 3)
      have hlit : ∀ q : Nat, q < 3 → (w13.alloc (.cells #[.int .i64 1, .int .i64 2, .int .i64 4] 3)).cell? ⟨w13.heap.size, q, none⟩ = some (.int .i64 (three q)) := fun q hq => by
        rw [World.cell?_alloc_new]
        have : q = 0 ∨ q = 1 ∨ q = 2 := by omega
        rcases this with rfl | rfl | rfl <;> rfl
      have hlb : w13.heap.size < (w13.alloc (.cells #[.int .i64 1, .int .i64 2, .int .i64 4] 3)).heap.size := by simp
      replace hr := hr.keep kL
      replace kk := kk.keep kL
      replace r6 := r6.keep kL
      clear kL
      go_wp2_with fail
      generalize w13.alloc (.cells #[.int .i64 1, .int .i64 2, .int .i64 4] 3) = W at *
      have HLIT := Lib.hid hlit
      clear hlit
      obtain ⟨ra, rcap, rfl, _⟩ := id hr
      obtain ⟨a', cap', he6, _, _, hl6, _, hc6⟩ := id r6
      simp only [Value.slice.injEq, true_and] at he6
      obtain ⟨rfl, rfl⟩ := he6
      have H6 := Lib.hid hc6
      clear hc6
      go_loopw [170] (fun z wr => ∃ q : Nat, q ≤ 3 ∧ z = .int .i64 (q : Int) ∧ Chg No W wr) (fun z _ => 3 - (intOf z).toNat)
      case atStart => exact ⟨0, by omega, rfl, Chg.refl _ _⟩
      case round =>
        obtain ⟨q, hq3, rfl, hch⟩ := hrel
        have hq0 : (0 : Int) ≤ (q : Int) := Int.natCast_nonneg _
        by_cases hq : q < 3
        · have hqI : (q : Int) < 3 := by omega
          have hwq : IntKind.i64.wrap ((q : Int) + 1) = (q : Int) + 1 := IntWalk.i64_in _ (by omega)
          have hl3 := (hch.cellD w13.heap.size q hlb (fun e => e)).trans (HLIT.out q hq)
          have h17 := three_at hq
          have HQ3 := Lib.hid (HP3.out q hq)
          have hpf := HPF.out q hq
          obtain ⟨pp, hpp⟩ : ∃ pp, three q = pp := ⟨_, rfl⟩
          rw [hpp] at hl3 h17 hpf HQ3
          have hask : askedB m pp k l = true := (pag_asked (by omega)).trans HP.out
          obtain ⟨pl, hpl⟩ : ∃ pl, places (newC pp k) l = pl := ⟨_, rfl⟩
          have hnil : (if askedB m pp k l then places (newC pp k) l else []) = pl := by rw [hask, ← hpl]; rfl
          have hlen := nfC_le l (newC pp k)
          rw [← places_nf, hpl] at hlen
          rw [hpl] at hpf HQ3
          have HASK := Lib.hid hask
          have HNIL := Lib.hid hnil
          clear hask hnil hpl hpp h17
          go_wp2_with fail
          refine (implFaultPlaces_any No m pp k _ l _ (hr.keep hch)).mono ?_
          rintro e w14 ⟨v4, _, rfl, rfl, o4, k4⟩
          rw [HNIL.out] at o4
          rw [HASK.out]
          have hch4 := hch.keep k4
          have r4 := o4.readNo
          obtain ⟨a4, c4, rfl, _, _, hl4, _, hc4⟩ := id r4
          have H4 := Lib.hid hc4
          clear hc4 o4 k4
          go_wp2_with fail
          go_loopw [33] (fun z wr => ∃ i : Nat, i ≤ ph.length ∧ z = .int .i64 (i : Int) ∧ Chg No w14 wr) (fun z _ => ph.length - (intOf z).toNat)
          case atStart => exact ⟨0, by omega, rfl, Chg.refl _ _⟩
          case round =>
            obtain ⟨i, hi, rfl, hci⟩ := hrel
            have hi0 : (0 : Int) ≤ (i : Int) := Int.natCast_nonneg _
            by_cases hil : i < ph.length
            · obtain ⟨pa, pb, g1, g2, g3, g4, g5⟩ := HQ3.out i hil
              obtain ⟨b6, off6, rfl, _, hb6, hcell6⟩ := H6.out (by intro e; simp [e] at hil)
              have kall := hch4.keep hci
              have hca := (kall.cellD b6 (off6 + i) hb6 (fun e => e)).trans (hcell6 i hil)
              rw [g1] at hca
              have hi1 : (i : Int) < (ph.length : Int) := by omega
              have hwi : IntKind.i64.wrap ((i : Int) + 1) = (i : Int) + 1 := IntWalk.i64_in _ (by omega)
              obtain ⟨i1, hi1e⟩ : ∃ i1, i + 1 = i1 := ⟨_, rfl⟩
              have G5 := Lib.hid g5
              have GA := Lib.hid g1
              have HC6 := Lib.hid hcell6
              by_cases hnx : i + 1 < ph.length
              · have hcb := (kall.cellD b6 (off6 + (i + 1)) hb6 (fun e => e)).trans (hcell6 (i + 1) hnx)
                rw [if_pos hnx] at g2
                rw [g2] at hcb
                have hnI : (i : Int) + 1 < (ph.length : Int) := by omega
                clear g1 g2 g5 hcell6 hi1e hca
                go_wp2_with fail
                clear hcb
                go_loopw [34, 36] (fun y z wr => ∃ j : Nat, j ≤ pl.length ∧ z = .int .i64 (j : Int) ∧ y = .int .i64 (manyTo pl pa pb j : Int) ∧ Chg No w14 wr) (fun _ z _ => pl.length - (intOf z).toNat)
                case atStart => exact ⟨0, by omega, rfl, rfl, hci⟩
                case round =>
                  clear kall hci
                  obtain ⟨j, hj, rfl, rfl, hcj⟩ := hrel
                  have hj0 : (0 : Int) ≤ (j : Int) := Int.natCast_nonneg _
                  have hml := manyTo_le pl pa pb j
                  by_cases hjl : j < pl.length
                  · obtain ⟨b4, off4, rfl, _, hb4, hcell4⟩ := H4.out (by intro e; simp [e] at hjl)
                    have hcx := (hcj.cellD b4 (off4 + j) hb4 (fun e => e)).trans (hcell4 j hjl)
                    obtain ⟨x, hx⟩ : ∃ x, pl.getD j 0 = x := ⟨_, rfl⟩
                    rw [hx] at hcx
                    have hxg : pl[j] = x := by rw [← hx, List.getD_eq_getElem?_getD, List.getElem?_eq_getElem hjl]; rfl
                    have hsn : manyTo pl pa pb (j + 1) = manyTo pl pa pb j + (if inB x (pa : Int) ((pb : Int) - 1) then 1 else 0) := by
                      unfold manyTo; rw [countTo_snoc pl _ j hjl, hxg]
                    have hca2 := ((hch4.keep hcj).cellD b6 (off6 + i) hb6 (fun e => e)).trans (HC6.out i hil)
                    rw [GA.out] at hca2
                    obtain ⟨mm, hmm⟩ : ∃ mm, manyTo pl pa pb j = mm := ⟨_, rfl⟩
                    rw [hmm] at hml hsn ⊢
                    have HSN := Lib.hid hsn
                    have hj1 : (j : Int) < (pl.length : Int) := by omega
                    have hwj : IntKind.i64.wrap ((j : Int) + 1) = (j : Int) + 1 := IntWalk.i64_in _ (by omega)
                    have hwm : IntKind.i64.wrap ((mm : Int) + 1) = (mm : Int) + 1 := IntWalk.i64_in _ (by omega)
                    clear hx hxg hsn hmm hcell4
                    by_cases hxa : (pa : Int) ≤ x
                    · by_cases hxb : x < (pb : Int)
                      · have HIN : Hid (inB x (pa : Int) ((pb : Int) - 1) = true) := Lib.hid (inB_iff.2 (by omega))
                        go_wp2_with fail
                        go_quiet (fail)
                        go_wp2_with fail
                        go_round
                        case rel => exact ⟨j + 1, by omega, by go_num, by rw [HSN.out, HIN.out]; rfl, hcj.keep ((Chg.refl No wr).drewN nq)⟩
                        case measure => simp [intOf]; omega
                      · have HIN : Hid (inB x (pa : Int) ((pb : Int) - 1) = false) := Lib.hid (by
                          cases hh : inB x (pa : Int) ((pb : Int) - 1)
                          · rfl
                          · rw [inB_iff] at hh; omega)
                        go_wp2_with fail
                        go_quiet (fail)
                        go_wp2_with fail
                        go_round
                        case rel => exact ⟨j + 1, by omega, by go_num, by rw [HSN.out, HIN.out]; rfl, hcj.keep ((Chg.refl No wr).drewN nq)⟩
                        case measure => simp [intOf]; omega
                    · have HIN : Hid (inB x (pa : Int) ((pb : Int) - 1) = false) := Lib.hid (by
                        cases hh : inB x (pa : Int) ((pb : Int) - 1)
                        · rfl
                        · rw [inB_iff] at hh; omega)
                      have hxd : decide ((pa : Int) ≤ x) = false := by simpa using hxa
                      have hxe : x < (pa : Int) := by omega
                      go_wp2_with fail
                      go_quiet (fail)
                      go_wp2_with fail
                      go_round
                      case rel => exact ⟨j + 1, by omega, by go_num, by rw [HSN.out, HIN.out]; rfl, hcj.keep ((Chg.refl No wr).drewN nq)⟩
                      case measure => simp [intOf]; omega
                  · have hje : j = pl.length := by omega
                    subst hje
                    have hme : ((manyTo pl pa pb pl.length : Nat) : Int) ≤ k := by
                      have := G5.out
                      rw [betw_count] at this
                      unfold manyTo
                      rw [List.take_length]
                      exact this
                    have hmn : ¬ (k < ((manyTo pl pa pb pl.length : Nat) : Int)) := by omega
                    go_wp2_with fail
                    go_round
                    case rel => exact ⟨i + 1, by omega, by go_num, hcj⟩
                    case measure => simp [intOf]; omega
              · rw [if_neg hnx] at g2
                have hnI : ¬ ((i : Int) + 1 < (ph.length : Int)) := by omega
                have HPB : Hid ((l.length : Int) = (pb : Int)) := Lib.hid g2
                clear g1 g2 g5 hcell6 hi1e hca
                go_wp2_with fail
                rw [HPB.out]
                go_loopw [34, 36] (fun y z wr => ∃ j : Nat, j ≤ pl.length ∧ z = .int .i64 (j : Int) ∧ y = .int .i64 (manyTo pl pa pb j : Int) ∧ Chg No w14 wr) (fun _ z _ => pl.length - (intOf z).toNat)
                case atStart => exact ⟨0, by omega, rfl, rfl, hci⟩
                case round =>
                  clear kall hci
                  obtain ⟨j, hj, rfl, rfl, hcj⟩ := hrel
                  have hj0 : (0 : Int) ≤ (j : Int) := Int.natCast_nonneg _
                  have hml := manyTo_le pl pa pb j
                  by_cases hjl : j < pl.length
                  · obtain ⟨b4, off4, rfl, _, hb4, hcell4⟩ := H4.out (by intro e; simp [e] at hjl)
                    have hcx := (hcj.cellD b4 (off4 + j) hb4 (fun e => e)).trans (hcell4 j hjl)
                    obtain ⟨x, hx⟩ : ∃ x, pl.getD j 0 = x := ⟨_, rfl⟩
                    rw [hx] at hcx
                    have hxg : pl[j] = x := by rw [← hx, List.getD_eq_getElem?_getD, List.getElem?_eq_getElem hjl]; rfl
                    have hsn : manyTo pl pa pb (j + 1) = manyTo pl pa pb j + (if inB x (pa : Int) ((pb : Int) - 1) then 1 else 0) := by
                      unfold manyTo; rw [countTo_snoc pl _ j hjl, hxg]
                    have hca2 := ((hch4.keep hcj).cellD b6 (off6 + i) hb6 (fun e => e)).trans (HC6.out i hil)
                    rw [GA.out] at hca2
                    obtain ⟨mm, hmm⟩ : ∃ mm, manyTo pl pa pb j = mm := ⟨_, rfl⟩
                    rw [hmm] at hml hsn ⊢
                    have HSN := Lib.hid hsn
                    have hj1 : (j : Int) < (pl.length : Int) := by omega
                    have hwj : IntKind.i64.wrap ((j : Int) + 1) = (j : Int) + 1 := IntWalk.i64_in _ (by omega)
                    have hwm : IntKind.i64.wrap ((mm : Int) + 1) = (mm : Int) + 1 := IntWalk.i64_in _ (by omega)
                    clear hx hxg hsn hmm hcell4
                    by_cases hxa : (pa : Int) ≤ x
                    · by_cases hxb : x < (pb : Int)
                      · have HIN : Hid (inB x (pa : Int) ((pb : Int) - 1) = true) := Lib.hid (inB_iff.2 (by omega))
                        go_wp2_with fail
                        go_quiet (fail)
                        go_wp2_with fail
                        go_round
                        case rel => exact ⟨j + 1, by omega, by go_num, by rw [HSN.out, HIN.out]; rfl, hcj.keep ((Chg.refl No wr).drewN nq)⟩
                        case measure => simp [intOf]; omega
                      · have HIN : Hid (inB x (pa : Int) ((pb : Int) - 1) = false) := Lib.hid (by
                          cases hh : inB x (pa : Int) ((pb : Int) - 1)
                          · rfl
                          · rw [inB_iff] at hh; omega)
                        go_wp2_with fail
                        go_quiet (fail)
                        go_wp2_with fail
                        go_round
                        case rel => exact ⟨j + 1, by omega, by go_num, by rw [HSN.out, HIN.out]; rfl, hcj.keep ((Chg.refl No wr).drewN nq)⟩
                        case measure => simp [intOf]; omega
                    · have HIN : Hid (inB x (pa : Int) ((pb : Int) - 1) = false) := Lib.hid (by
                        cases hh : inB x (pa : Int) ((pb : Int) - 1)
                        · rfl
                        · rw [inB_iff] at hh; omega)
                      have hxd : decide ((pa : Int) ≤ x) = false := by simpa using hxa
                      have hxe : x < (pa : Int) := by omega
                      go_wp2_with fail
                      go_quiet (fail)
                      go_wp2_with fail
                      go_round
                      case rel => exact ⟨j + 1, by omega, by go_num, by rw [HSN.out, HIN.out]; rfl, hcj.keep ((Chg.refl No wr).drewN nq)⟩
                      case measure => simp [intOf]; omega
                  · have hje : j = pl.length := by omega
                    subst hje
                    have hme : ((manyTo pl pa pb pl.length : Nat) : Int) ≤ k := by
                      have := G5.out
                      rw [betw_count] at this
                      unfold manyTo
                      rw [List.take_length]
                      exact this
                    have hmn : ¬ (k < ((manyTo pl pa pb pl.length : Nat) : Int)) := by omega
                    go_wp2_with fail
                    go_round
                    case rel => exact ⟨i + 1, by omega, by go_num, hcj⟩
                    case measure => simp [intOf]; omega
            · have hie : i = ph.length := by omega
              subst hie
              obtain ⟨hpf1, hpf2⟩ := hpf
              have hb2 : 0 ≤ k * fv ∧ k * fv ≤ 360 := by
                have hcc : k = 1 ∨ k = 2 ∨ k = 3 ∨ k = 4 ∨ k = 5 ∨ k = 6 := by omega
                rcases hcc with rfl | rfl | rfl | rfl | rfl | rfl <;> omega
              have hwe : IntKind.i64.wrap (k * fv) = k * fv := IntWalk.i64_in _ (by omega)
              have hn1 : ¬ ((pl.length : Int) < fv) := by omega
              have hn2 : ¬ (k * fv < (pl.length : Int)) := by omega
              go_wp2_with fail
              go_round
              case rel => exact ⟨q + 1, by omega, by go_num, hch4.keep hci⟩
              case measure => simp [intOf]; omega
        · have hqe : q = 3 := by omega
          subst hqe
          go_wp2_with fail
          go_ret
          exact ⟨rfl, kk.keep hch⟩
end Go.Proofs.YtmfhlojmoehmiaaGreat
