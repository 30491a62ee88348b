import Derived.Test.YtmfhlojmoehmiaaGreatGo
import Derived.Test.YtmfhlojmoehmiaaGreatSo
import Derived.Test.YtmfhlojmoehmiaaGreatQ
import Derived.Test.YtmfhlojmoehmiaaGreatGe
import Derived.Test.YtmfhlojmoehmiaaGreatOw
import Derived.Test.YtmfhlojmoehmiaaGreatO
import Derived.Test.YtmfhlojmoehmiaaGreatP
import Derived.Test.YtmfhlojmoehmiaaGreatBa
import Derived.Test.YtmfhlojmoehmiaaGreatBk
/- phases, and what leaves a cache: plain -/
namespace Go.Proofs.YtmfhlojmoehmiaaGreat

/-- after j requests: where the phase of the last of them begins -/
def startP (k : Int) (l : List Int) : Nat → Nat
  | 0 => 0
  | j + 1 => if decide (j = 0) || decide (k < ((diffL ((l.take (j + 1)).drop (startP k l j))).length : Int)) then j else startP k l j
/-- a phase begins at place j -/
def newB (k : Int) (l : List Int) (j : Nat) : Bool := decide (j = 0) || decide (k < ((diffL ((l.take (j + 1)).drop (startP k l j))).length : Int))
theorem startP_succ (k : Int) (l : List Int) (j : Nat) : startP k l (j + 1) = if newB k l j then j else startP k l j := rfl
/-- the places below j at which a phase begins -/
def phF (k : Int) (l : List Int) : Nat → List Int
  | 0 => []
  | j + 1 => if newB k l j then phF k l j ++ [(j : Int)] else phF k l j
theorem phF_succ (k : Int) (l : List Int) (j : Nat) : phF k l (j + 1) = if newB k l j then phF k l j ++ [(j : Int)] else phF k l j := rfl
theorem startP_le (k : Int) (l : List Int) (j : Nat) : startP k l j ≤ j := by
  induction j with
  | zero => exact Nat.le_refl _
  | succ j ih => rw [startP_succ]; split <;> omega
theorem startP_lt (k : Int) (l : List Int) (j : Nat) : startP k l (j + 1) ≤ j := by
  rw [startP_succ]; split
  · exact Nat.le_refl _
  · exact startP_le k l j
theorem phF_len (k : Int) (l : List Int) (j : Nat) : (phF k l j).length ≤ j := by
  induction j with
  | zero => exact Nat.le_refl _
  | succ j ih =>
    rw [phF_succ]
    split
    · simp; omega
    · omega
theorem phF_pos (k : Int) (l : List Int) (j : Nat) : 0 < (phF k l (j + 1)).length := by
  induction j with
  | zero => simp [phF, newB]
  | succ j ih =>
    rw [phF_succ]
    split
    · simp
    · exact ih
theorem phF_last (k : Int) (l : List Int) (j : Nat) : (phF k l (j + 1)).getD ((phF k l (j + 1)).length - 1) 0 = (startP k l (j + 1) : Int) := by
  induction j with
  | zero => simp [phF, newB, startP]
  | succ j ih =>
    rw [phF_succ k l (j + 1), startP_succ k l (j + 1)]
    split
    · rw [List.getD_eq_getElem?_getD, List.length_append, List.length_singleton, Nat.add_sub_cancel, List.getElem?_append_right (Nat.le_refl _)]
      simp
    · exact ih
theorem phF_has (k : Int) (l : List Int) (n i : Nat) : hasB (phF k l n) (i : Int) = (decide (i < n) && newB k l i) := by
  induction n with
  | zero => simp [phF, hasB]
  | succ n ih =>
    rw [phF_succ]
    by_cases hb : newB k l n = true
    · rw [if_pos hb]
      have e : hasB (phF k l n ++ [(n : Int)]) (i : Int) = (hasB (phF k l n) (i : Int) || decide (i = n)) := by
        unfold hasB
        rw [List.contains_append]
        congr 1
        by_cases h : i = n
        · subst h; simp
        · simp [h]; omega
      rw [e, ih]
      by_cases h : i = n
      · subst h; simp [hb]
      · have : decide (i < n + 1) = decide (i < n) := by
          by_cases h2 : i < n
          · simp [h2]; omega
          · simp [h2]; omega
        rw [this]; simp [h]
    · rw [if_neg hb, ih]
      by_cases h : i = n
      · subst h; simp [hb]
      · have : decide (i < n + 1) = decide (i < n) := by
          by_cases h2 : i < n
          · simp [h2]; omega
          · simp [h2]; omega
        rw [this]
/-- the last of the numbers that is at most i -/
def lastLE (i : Int) (a : List Int) : Int := a.foldl (fun f x => if x ≤ i then x else f) 0
theorem lastLE_snoc (i : Int) (a : List Int) (x : Int) : lastLE i (a ++ [x]) = if x ≤ i then x else lastLE i a := by simp [lastLE, List.foldl_append]
theorem lastLE_take (i : Int) (a : List Int) (q : Nat) (h : q < a.length) : lastLE i (a.take (q + 1)) = if a[q] ≤ i then a[q] else lastLE i (a.take q) := by
  rw [List.take_succ_eq_append_getElem h, lastLE_snoc]
theorem lastLE_full (k : Int) (l : List Int) (i : Nat) : ∀ n : Nat, n ≤ i + 1 → lastLE i (phF k l n) = startP k l n := by
  intro n
  induction n with
  | zero => intro _; rfl
  | succ n ih =>
    intro h
    rw [phF_succ, startP_succ]
    split
    · rw [lastLE_snoc, if_pos (by omega)]
    · exact ih (by omega)
theorem lastLE_phF (k : Int) (l : List Int) (i : Nat) : ∀ n : Nat, i < n → lastLE i (phF k l n) = startP k l (i + 1) := by
  intro n
  induction n with
  | zero => intro h; omega
  | succ n ih =>
    intro h
    by_cases hi : i = n
    · subst hi; exact lastLE_full k l i (i + 1) (Nat.le_refl _)
    · rw [phF_succ]
      split
      · rw [lastLE_snoc, if_neg (by omega)]; exact ih (by omega)
      · exact ih (by omega)
/-- what the reference keeps of a phase -/
theorem items_succ (k : Int) (l : List Int) (j : Nat) (hj : j < l.length) :
    putL (diffL ((l.take j).drop (startP k l j))) l[j] = diffL ((l.take (j + 1)).drop (startP k l j)) := by
  rw [List.take_succ_eq_append_getElem hj, List.drop_append_of_le_length (by rw [List.length_take]; have := startP_le k l j; omega), diffL_append]
theorem items_new (l : List Int) (j : Nat) (hj : j < l.length) : diffL ((l.take (j + 1)).drop j) = [l[j]] := by
  rw [List.take_succ_eq_append_getElem hj, List.drop_append_of_le_length (by rw [List.length_take]; omega), List.drop_of_length_le (by rw [List.length_take]; omega)]
  rfl

theorem nod_inj {l : List Int} (h : l.Nodup) {i j : Nat} (hi : i < l.length) (hj : j < l.length) (e : l[i] = l[j]) : i = j := by
  have hp := List.pairwise_iff_getElem.1 h
  rcases Nat.lt_trichotomy i j with h1 | h1 | h1
  · exact absurd e (hp i j hi hj h1)
  · exact h1
  · exact absurd e.symm (hp j i hj hi h1)
theorem gone_erase {l : List Int} (h : l.Nodup) {v : Nat} (hv : v < l.length) (y : Int) : (y ∈ l ∧ y ∉ l.eraseIdx v) ↔ y = l[v] := by
  rw [List.mem_eraseIdx_iff_getElem]
  constructor
  · rintro ⟨h1, h2⟩
    obtain ⟨i, hi, rfl⟩ := List.mem_iff_getElem.1 h1
    by_cases e : i = v
    · subst e; rfl
    · exact absurd ⟨i, hi, e, rfl⟩ h2
  · rintro rfl
    refine ⟨List.getElem_mem hv, ?_⟩
    rintro ⟨i, hi, hne, he⟩
    exact hne (nod_inj h hi hv he)
theorem gone_set {l : List Int} (h : l.Nodup) {v : Nat} (hv : v < l.length) {x : Int} (hx : x ∉ l) (y : Int) : (y ∈ l ∧ y ∉ l.set v x) ↔ y = l[v] := by
  constructor
  · rintro ⟨h1, h2⟩
    obtain ⟨i, hi, rfl⟩ := List.mem_iff_getElem.1 h1
    by_cases e : i = v
    · subst e; rfl
    · refine absurd (List.mem_iff_getElem.2 ⟨i, by simpa using hi, ?_⟩) h2
      rw [List.getElem_set_ne (fun h => e h.symm)]
  · rintro rfl
    refine ⟨List.getElem_mem hv, fun hm => ?_⟩
    obtain ⟨i, hi, he⟩ := List.mem_iff_getElem.1 hm
    rw [List.getElem_set] at he
    split at he
    · exact hx (he ▸ List.getElem_mem hv)
    · rename_i hne
      exact hne (nod_inj h (by simpa using hi) hv he).symm
theorem nod_set {l : List Int} (h : l.Nodup) (v : Nat) {x : Int} (hx : x ∉ l) : (l.set v x).Nodup := by
  refine List.pairwise_iff_getElem.2 (fun i j hi hj hij => ?_)
  rw [List.length_set] at hi hj
  rw [List.getElem_set, List.getElem_set]
  split
  · split
    · omega
    · exact fun e => hx (e ▸ List.getElem_mem hj)
  · split
    · exact fun e => hx (e ▸ List.getElem_mem hi)
    · exact fun e => absurd (nod_inj h hi hj e) (by omega)
theorem nod_erase {l : List Int} (h : l.Nodup) (v : Nat) : (l.eraseIdx v).Nodup := h.sublist (List.eraseIdx_sublist l v)
theorem nod_front {l : List Int} (h : l.Nodup) (v : Nat) (hv : v < l.length) : (l[v] :: l.eraseIdx v).Nodup :=
  List.nodup_cons.2 ⟨((gone_erase h hv l[v]).2 rfl).2, nod_erase h v⟩
theorem hasB_false {l : List Int} {x : Int} : hasB l x = false ↔ x ∉ l := by simp [hasB]
theorem hasB_true {l : List Int} {x : Int} : hasB l x = true ↔ x ∈ l := by simp [hasB]
theorem nod_step {c : Ca} (h : c.pages.Nodup) (x : Int) : (stepC c x).pages.Nodup := by
  unfold stepC
  split
  · rename_i hh
    rcases atI_spec c.pages x with ⟨_, k, hk, he⟩ | ⟨hn, _⟩
    · rw [he]
      unfold hitC
      split
      · simp only [Int.toNat_natCast, List.getD_eq_getElem?_getD, List.getElem?_eq_getElem hk, Option.getD_some]
        exact nod_front h k hk
      · split
        · exact h
        · split <;> exact h
    · rw [hn] at hh; cases hh
  · rename_i hh
    have hx : x ∉ c.pages := hasB_false.1 (by simpa using hh)
    unfold faultC
    split
    · unfold clockC
      split
      · rw [List.nodup_append]
        exact ⟨h, by simp, fun a ha b hb => by
          rw [List.mem_singleton] at hb
          subst hb
          exact fun e => hx (e ▸ ha)⟩
      · exact nod_set h _ hx
    · refine List.nodup_cons.2 ⟨?_, ?_⟩
      · split
        · split
          · simp
          · exact fun hm => hx (List.mem_of_mem_eraseIdx hm)
        · exact hx
      · split
        · split
          · simp
          · exact nod_erase h _
        · exact h
theorem nod_run {c : Ca} (h : c.pages.Nodup) (l : List Int) : (runC c l).pages.Nodup := by
  induction l generalizing c with
  | nil => exact h
  | cons x l ih => exact ih (nod_step h x)
/-- what a request puts out -/
def victL (c : Ca) (x : Int) : List Int := if hasB c.pages x || decide ((c.pages.length : Int) < c.size) then [] else if c.pol = 4 then diffL c.pages else [c.pages.getD (victim c) 0]
theorem victim_in {c : Ca} (h : Ok c) (hf : ¬ (c.pages.length : Int) < c.size) : victim c < c.pages.length := by
  have hs := h.size
  have hl := h.len
  by_cases h6 : c.pol = 6
  · have hh := h.hand
    obtain ⟨_, t2, _⟩ := turn_props c.size.toNat (by omega) (c.marks.length + 1) c.marks c.hand.toNat (by omega)
    unfold victim
    rw [if_neg (by omega), if_neg (by omega), if_pos h6]
    unfold turned
    omega
  · exact victim_lt h (by omega) h6
theorem gone_mem {c : Ca} (h : Ok c) (hn : c.pages.Nodup) (x y : Int) : y ∈ diffL (stay (hasB (stepC c x).pages) c.pages) ↔ y ∈ victL c x := by
  have hs := h.size
  have hl := h.len
  have hst : y ∈ diffL (stay (hasB (stepC c x).pages) c.pages) ↔ y ∈ c.pages ∧ y ∉ (stepC c x).pages := by
    rw [diffL_mem, stay, List.mem_filter]
    simp [hasB]
  rw [hst]
  unfold victL stepC
  cases hh : hasB c.pages x
  · have hx := hasB_false.1 hh
    simp only [Bool.false_or, Bool.false_eq_true, if_false]
    by_cases hf : (c.pages.length : Int) < c.size
    · rw [if_pos (by simpa using hf)]
      simp only [List.not_mem_nil, iff_false, not_and, Classical.not_not]
      intro hy
      unfold faultC
      split
      · unfold clockC; rw [if_pos hf]; exact List.mem_append_left _ hy
      · rw [if_neg (by omega)]; exact List.mem_cons_of_mem _ hy
    · rw [if_neg (by simpa using hf)]
      have hv := victim_in h hf
      have hfe : (c.pages.length : Int) = c.size := by omega
      have hne : ∀ {m : List Int}, (y ∈ c.pages ∧ y ∉ x :: m) ↔ (y ∈ c.pages ∧ y ∉ m) := fun {m} => by
        constructor
        · rintro ⟨h1, h2⟩; exact ⟨h1, fun h => h2 (List.mem_cons_of_mem _ h)⟩
        · rintro ⟨h1, h2⟩
          refine ⟨h1, fun h => ?_⟩
          rcases List.mem_cons.1 h with rfl | h
          · exact hx h1
          · exact h2 h
      have hgd : c.pages.getD (victim c) 0 = c.pages[victim c] := by rw [List.getD_eq_getElem?_getD, List.getElem?_eq_getElem hv]; rfl
      by_cases h4 : c.pol = 4
      · rw [if_pos h4, diffL_mem]
        unfold faultC
        rw [if_neg (by omega), if_pos hfe, if_pos h4]
        simp only [hne]
        simp
      · rw [if_neg h4, List.mem_singleton, hgd]
        unfold faultC
        by_cases h6 : c.pol = 6
        · rw [if_pos h6]
          unfold clockC
          rw [if_neg hf]
          have e : (turned c).2 = victim c := by unfold victim; rw [if_neg (by omega), if_neg (by omega), if_pos h6]
          simp only [e]
          exact gone_set hn hv hx y
        · rw [if_neg h6, if_pos hfe, if_neg h4]
          simp only [hne]
          exact gone_erase hn hv y
  · simp only [Bool.true_or, if_true, List.not_mem_nil, iff_false, not_and, Classical.not_not]
    intro hy
    rcases atI_spec c.pages x with ⟨_, k, hk, he⟩ | ⟨hn', _⟩
    · rw [he]
      unfold hitC
      split
      · simp only [Int.toNat_natCast, List.getD_eq_getElem?_getD, List.getElem?_eq_getElem hk, Option.getD_some]
        by_cases e : y = c.pages[k]
        · rw [e]; exact List.mem_cons_self
        · refine List.mem_cons_of_mem _ (Classical.byContradiction fun hm => e ((gone_erase hn hk y).1 ⟨hy, hm⟩))
      · split
        · exact hy
        · split <;> exact hy
    · rw [hn'] at hh; cases hh
/-- two lists have a number in common -/
def comB (a b : List Int) : Bool := a.any (hasB b)
theorem comB_same {a a' : List Int} (b : List Int) (h : ∀ y, y ∈ a ↔ y ∈ a') : comB a b = comB a' b := by
  unfold comB
  rw [Bool.eq_iff_iff, List.any_eq_true, List.any_eq_true]
  constructor
  · rintro ⟨y, h1, h2⟩; exact ⟨y, (h y).1 h1, h2⟩
  · rintro ⟨y, h1, h2⟩; exact ⟨y, (h y).2 h1, h2⟩
theorem comB_snoc (a b : List Int) (k : Nat) (h : k < a.length) : comB (a.take (k + 1)) b = (comB (a.take k) b || hasB b a[k]) := by
  rw [List.take_succ_eq_append_getElem h, comB, List.any_append]; simp [comB]
theorem comB_hit (a b : List Int) (k : Nat) (h : k < a.length) (hk : hasB b a[k] = true) : comB a b = true := List.any_eq_true.2 ⟨a[k], List.getElem_mem h, hk⟩
/-- place j breaks the rule of marking -/
def breakB (p k : Int) (l : List Int) (j : Nat) : Bool := comB (victL (runC (newC p k) (l.take j)) (l.getD j 0)) ((l.take j).drop (startP k l (j + 1)))
def markV (n p k : Int) (l : List Int) : Option Nat := if askedB n p k l then firstN (breakB p k l) l.length else none
theorem break_gone {p k : Int} (hok : Ok (newC p k)) (l : List Int) (j : Nat) (hj : j < l.length) :
    comB (diffL (stay (hasB (runC (newC p k) (l.take (j + 1))).pages) (runC (newC p k) (l.take j)).pages)) ((l.take j).drop (startP k l (j + 1))) = breakB p k l j := by
  rw [runC_snoc _ _ _ hj, breakB]
  have e : l.getD j 0 = l[j] := by rw [List.getD_eq_getElem?_getD, List.getElem?_eq_getElem hj]; rfl
  rw [e]
  exact comB_same _ (fun y => gone_mem (ok_run hok _) (nod_run (by simp [newC]) _) _ y)
end Go.Proofs.YtmfhlojmoehmiaaGreat

/- the phases of a list of requests, both sides -/
namespace Go.Proofs.YtmfhlojmoehmiaaGreat
open Go.RowKit

set_option maxRecDepth 100000 in
set_option maxHeartbeats 1000000 in
theorem phasesOf_any (A : Nat → Prop) (k : Int) (v : Value) (l : List Int) (w : World) (hv : RI A w v l) (hl : l.length ≤ 1000000) :
    Calls Tryz.prog 100 #[.int .i64 k, v] w (Ret fun r w' => OI w.heap.size w' r (phF k l l.length) ∧ Chg No w w') := by
  obtain ⟨la, lc, rfl, _⟩ := id hv
  have hl0 : (0 : Int) ≤ (l.length : Int) := Int.natCast_nonneg _
  go_enter Tryz.func100, Tryz.ntmps100
  go_wp2_with fail
  go_loopw [5, 10] (fun o i wr => ∃ j : Nat, j ≤ l.length ∧ i = .int .i64 j ∧ OI w.heap.size wr o (phF k l j) ∧ Chg No w wr) (fun _ i _ => l.length - (intOf i).toNat)
  case atStart => exact ⟨0, Nat.zero_le _, rfl, OI.zero (Nat.le_refl _), (Chg.refl No w).alloc _⟩
  case round =>
    obtain ⟨j, hj, rfl, ho, hch⟩ := hrel
    have hj0 : (0 : Int) ≤ (j : Int) := Int.natCast_nonneg _
    by_cases hlt : j < l.length
    · have hj1 : (j : Int) < (l.length : Int) := by omega
      have hw1 : IntKind.i64.wrap ((j : Int) + 1) = (j : Int) + 1 := IntWalk.i64_in _ (by omega)
      have hsz := hch.size
      have hpl := phF_len k l j
      by_cases hz : j = 0
      · subst hz
        have HP : Hid (phF k l (0 + 1) = phF k l 0 ++ [((0 : Nat) : Int)]) := Lib.hid rfl
        obtain ⟨f, hf⟩ : ∃ f, phF k l 0 = f := ⟨_, rfl⟩
        have hf0 : f = [] := hf.symm
        rw [hf] at ho
        have HF := Lib.hid hf
        clear hf
        subst hf0
        obtain ⟨oa, oc, rfl, _⟩ := ho.view
        go_wp2_with (at_builtin; refine wapp1 rfl (.tmp 32) (.tmp 34) rfl ho rfl rfl (by simp) hsz ?_)
        intro o1 w1 h1 k1 f1
        have hch1 : Chg No w w1 := hch.own k1 ho (Nat.le_refl _)
        go_wp2_with fail
        go_round
        case rel => exact ⟨0 + 1, hlt, by go_num, by rw [HP.out, HF.out]; exact h1, hch1⟩
        case measure => simp [intOf]; omega
      · obtain ⟨m, q, s, f, d, hf, hm, hq, hs, hd, hlast, hsl, hps⟩ : ∃ (m q s : Nat) (f d : List Int), phF k l j = f ∧ f.length = m ∧ m = q + 1 ∧ startP k l j = s ∧ diffL ((l.take (j + 1)).drop s) = d ∧ f.getD q 0 = (s : Int) ∧ s < j ∧ phF k l (j + 1) = if k < (d.length : Int) then f ++ [(j : Int)] else f := by
          obtain ⟨i, rfl⟩ : ∃ i, j = i + 1 := ⟨j - 1, by omega⟩
          refine ⟨_, (phF k l (i + 1)).length - 1, _, _, _, rfl, rfl, ?_, rfl, rfl, phF_last k l i, Nat.lt_succ_of_le (startP_lt k l i), ?_⟩
          · have := phF_pos k l i; omega
          · rw [phF_succ k l (i + 1)]; simp [newB]
        rw [hf] at ho hpl
        obtain ⟨oa, oc, rfl, hoc1, hoc2, hcell⟩ := ho.view
        rw [hm] at *
        obtain ⟨g, rfl, _, _, hcells, _⟩ := hcell (by omega)
        have hcq := hcells q (by omega)
        rw [hlast] at hcq
        have hq0 : (0 : Int) ≤ (q : Int) := Int.natCast_nonneg _
        have hwq : IntKind.i64.wrap ((m : Int) - 1) = (q : Int) := by rw [show (m : Int) - 1 = (q : Int) by omega]; exact IntWalk.i64_in _ (by omega)
        have hne : ((m : Int) == 0) = false := by rw [beq_eq_false_iff_ne]; omega
        have hne' : (m == 0) = false := by rw [beq_eq_false_iff_ne]; omega
        have hqm : (q : Int) < (m : Int) := by omega
        obtain ⟨x, hx, hRx⟩ := (hv.keep hch).mid s (j + 1) (s : Int) ((j : Int) + 1) rfl (by omega) (by omega) (by omega)
        have HD := Lib.hid hd
        have HPS := Lib.hid hps
        have HF := Lib.hid hf
        have HM := Lib.hid hm
        clear hcells hcell hd hps hlast hs hf hm hq
        go_wp2_with fail
        refine (rising_any A x _ wr hRx).mono ?_
        rintro e w1 ⟨v1, rfl, o1, k1⟩
        rw [HD.out] at o1
        obtain ⟨a1, c1, rfl, _⟩ := o1.view
        have ho1 := ho.keep k1
        have hch1 := hch.keep k1
        have hsz1 := hch1.size
        clear hcq
        by_cases hgt : k < (d.length : Int)
        · have HP : Hid (phF k l (j + 1) = f ++ [(j : Int)]) := Lib.hid (by rw [HPS.out, if_pos hgt])
          go_wp2_with (at_builtin; refine wapp1 rfl (.tmp 32) (.tmp 34) rfl ho1 rfl rfl (by have := HM.out; omega) hsz1 ?_)
          intro o2 w2 h2 k2 f2
          have hch2 : Chg No w w2 := hch1.own k2 ho1 (Nat.le_refl _)
          go_wp2_with fail
          go_round
          case rel => exact ⟨j + 1, hlt, by go_num, by rw [HP.out]; exact h2, hch2⟩
          case measure => simp [intOf]; omega
        · have HP : Hid (phF k l (j + 1) = f) := Lib.hid (by rw [HPS.out, if_neg hgt])
          go_wp2_with fail
          go_round
          case rel => exact ⟨j + 1, hlt, by go_num, by rw [HP.out]; exact ho1, hch1⟩
          case measure => simp [intOf]; omega
    · have hj' : j = l.length := by omega
      subst hj'
      go_wp2_with fail
      go_ret
      exact ⟨_, rfl, ho, hch⟩

set_option maxRecDepth 100000 in
set_option maxHeartbeats 1000000 in
theorem l4Phases_any (A : Nat → Prop) (k : Int) (v : Value) (l : List Int) (w : World) (hv : RI A w v l) (hl : l.length ≤ 1000000) :
    Calls Tryz.prog 108 #[.int .i64 k, v] w (Ret fun r w' => OI w.heap.size w' r (phF k l l.length) ∧ Chg No w w') := by
  obtain ⟨la, lc, rfl, _, _, _, _, hc⟩ := id hv
  have hl0 : (0 : Int) ≤ (l.length : Int) := Int.natCast_nonneg _
  go_enter Tryz.func108, Tryz.ntmps108
  go_wp2_with fail
  go_loopw [5, 6, 7] (fun o it i wr => ∃ j : Nat, j ≤ l.length ∧ i = .int .i64 j ∧ OI w.heap.size wr o (phF k l j) ∧ OI w.heap.size wr it (diffL ((l.take j).drop (startP k l j))) ∧ Hid (∀ q, own o q → ¬ own it q) ∧ Chg No w wr) (fun _ _ i _ => l.length - (intOf i).toNat)
  case atStart =>
    refine ⟨0, Nat.zero_le _, rfl, (OI.zero (Nat.le_refl _)).alloc _, OI.zeroAt (World.size_alloc ..) (Nat.le_succ _), Lib.hid (fun q h1 h2 => ?_), ((Chg.refl No w).alloc _).alloc _⟩
    have := own_slice.1 h1
    have := own_slice.1 h2
    omega
  case round =>
    obtain ⟨j, hj, rfl, ho, hi, HDJ, hch⟩ := hrel
    have hj0 : (0 : Int) ≤ (j : Int) := Int.natCast_nonneg _
    by_cases hlt : j < l.length
    · obtain ⟨b, off, rfl, _, hb, hcell⟩ := hc (by intro e; simp [e] at hlt)
      have hcl := (hch.cellD b (off + j) hb (fun e => e)).trans (hcell j hlt)
      have hit := items_succ k l j hlt
      have hin := items_new l j hlt
      obtain ⟨y, hy⟩ : ∃ y, l[j] = y := ⟨_, rfl⟩
      have hgy : l.getD j 0 = y := by rw [← hy, List.getD_eq_getElem?_getD, List.getElem?_eq_getElem hlt]; rfl
      rw [hgy] at hcl
      rw [hy] at hit hin
      have hj1 : (j : Int) < (l.length : Int) := by omega
      have hw1 : IntKind.i64.wrap ((j : Int) + 1) = (j : Int) + 1 := IntWalk.i64_in _ (by omega)
      have hsz := hch.size
      have hpl := phF_len k l j
      have hil : (diffL ((l.take j).drop (startP k l j))).length < 17592186044416 := by have := diffL_len_le ((l.take j).drop (startP k l j)); rw [List.length_drop, List.length_take] at this; omega
      have hps := phF_succ k l j
      have hss := startP_succ k l j
      obtain ⟨d, hd⟩ : ∃ d, diffL ((l.take (j + 1)).drop (startP k l j)) = d := ⟨_, rfl⟩
      have hnb : newB k l j = (decide (j = 0) || decide (k < (d.length : Int))) := by rw [← hd]; rfl
      rw [hd] at hit
      have HIN := Lib.hid hin
      have HD := Lib.hid hd
      have HPS := Lib.hid hps
      have HSS := Lib.hid hss
      have HIT := Lib.hid hit
      have HNB := Lib.hid hnb
      have HC := Lib.hid hc
      obtain ⟨ia, ic, hie, _⟩ := hi.view
      subst hie
      obtain ⟨oa, on, oc, rfl⟩ := ho.shape
      clear hcell hd hps hss hit hnb hc hy hgy hin
      go_wp2_with fail
      refine (l1Put_any w.heap.size _ _ y wr hi hsz hil).mono ?_
      rintro e w1 ⟨v1, rfl, o1, k1, f1⟩
      rw [HIT.out] at o1
      obtain ⟨a1, c1, rfl, _⟩ := o1.view
      have ho1 := ho.keep k1
      have hch1 := hch.keep k1
      have hsz1 := hch1.size
      have hcl1 := (k1.cellD b (off + j) (Nat.lt_of_lt_of_le hb hsz) (fun e => e)).trans hcl
      have F1 := Lib.hid f1
      clear f1 hcl
      by_cases hz : j = 0
      · have HB : Hid (newB k l j = true) := Lib.hid (by rw [HNB.out]; simp [hz])
        have HP : Hid (phF k l (j + 1) = phF k l j ++ [(j : Int)]) := Lib.hid (by rw [HPS.out, if_pos HB.out])
        have HI : Hid (diffL ((l.take (j + 1)).drop (startP k l (j + 1))) = [y]) := Lib.hid (by rw [HSS.out, if_pos HB.out, HIN.out])
        have hze : ((j : Int) == 0) = true := by rw [beq_iff_eq]; omega
        clear hz
        go_wp2_with (at_builtin; refine wapp1 rfl (.tmp 31) (.tmp 33) rfl ho1 rfl rfl (by omega) hsz1 ?_)
        intro o2 w2 h2 k2 f2
        have hch2 : Chg No w w2 := hch1.own k2 ho1 (Nat.le_refl _)
        have hcl2 := (k2.cellD b (off + j) (Nat.lt_of_lt_of_le hb hsz1) (fun hq => by have := (ho1.lt _ hq).1; omega)).trans hcl1
        have hsz2 := hch2.size
        go_wp2_with fail
        go_round
        case rel => exact ⟨j + 1, hlt, by go_num, by rw [HP.out]; exact h2.alloc _, by rw [HI.out]; exact OI.one hsz2, Lib.hid (fun q hq hq' => by have := own_slice.1 hq'; have := (h2.lt q hq).2; omega), hch2.alloc _⟩
        case measure => simp [intOf]; omega
      · have hze : ((j : Int) == 0) = false := by rw [beq_eq_false_iff_ne]; omega
        have hze' : (j == 0) = false := by rw [beq_eq_false_iff_ne]; omega
        by_cases hgt : k < (d.length : Int)
        · have HB : Hid (newB k l j = true) := Lib.hid (by rw [HNB.out]; simp [hgt])
          have HP : Hid (phF k l (j + 1) = phF k l j ++ [(j : Int)]) := Lib.hid (by rw [HPS.out, if_pos HB.out])
          have HI : Hid (diffL ((l.take (j + 1)).drop (startP k l (j + 1))) = [y]) := Lib.hid (by rw [HSS.out, if_pos HB.out, HIN.out])
          go_wp2_with (at_builtin; refine wapp1 rfl (.tmp 31) (.tmp 33) rfl ho1 rfl rfl (by omega) hsz1 ?_)
          intro o2 w2 h2 k2 f2
          have hch2 : Chg No w w2 := hch1.own k2 ho1 (Nat.le_refl _)
          have hcl2 := (k2.cellD b (off + j) (Nat.lt_of_lt_of_le hb hsz1) (fun hq => by have := (ho1.lt _ hq).1; omega)).trans hcl1
          have hsz2 := hch2.size
          go_wp2_with fail
          go_round
          case rel => exact ⟨j + 1, hlt, by go_num, by rw [HP.out]; exact h2.alloc _, by rw [HI.out]; exact OI.one hsz2, Lib.hid (fun q hq hq' => by have := own_slice.1 hq'; have := (h2.lt q hq).2; omega), hch2.alloc _⟩
          case measure => simp [intOf]; omega
        · have HB : Hid (newB k l j = false) := Lib.hid (by rw [HNB.out]; simp [hgt, hz])
          have HP : Hid (phF k l (j + 1) = phF k l j) := Lib.hid (by rw [HPS.out, HB.out]; rfl)
          have HI : Hid (diffL ((l.take (j + 1)).drop (startP k l (j + 1))) = d) := Lib.hid (by rw [HSS.out, HB.out, ← HD.out]; rfl)
          clear hcl1
          go_wp2_with fail
          go_round
          case rel => exact ⟨j + 1, hlt, by go_num, by rw [HP.out]; exact ho1, by rw [HI.out]; exact o1, Lib.hid (fun q hq hq' => by
            rcases F1.out q hq' with h | h
            · exact HDJ.out q hq h
            · have := (ho.lt q hq).2; omega), hch1⟩
          case measure => simp [intOf]; omega
    · have hj' : j = l.length := by omega
      subst hj'
      clear hc
      go_wp2_with fail
      go_ret
      exact ⟨_, rfl, ho, hch⟩

set_option maxHeartbeats 400000 in
theorem l4Common_any (A B : Nat → Prop) (v vb : Value) (l lb : List Int) (w : World) (h : RI A w v l) (hb : RI B w vb lb) :
    Calls Tryz.prog 111 #[v, vb] w fun e w' => e = .returned (.bool (comB l lb)) ∧ w = w' := by
  obtain ⟨a, cap, rfl, hcap, hmax, hlen, _, hc⟩ := h
  obtain ⟨ba, bn, bc, rfl⟩ := hb.shape
  go_enter Tryz.func111, Tryz.ntmps111
  go_wp2
  go_loop [4, 5] (fun r i => ∃ k : Nat, k ≤ l.length ∧ i = .int .i64 k ∧ r = .bool false ∧ comB (l.take k) lb = false) (fun _ i => l.length - (intOf i).toNat)
  case atStart => exact ⟨0, Nat.zero_le _, rfl, rfl, rfl⟩
  case round =>
    obtain ⟨k, hk, rfl, rfl, hh⟩ := hrel
    have H := Lib.hid hh
    clear hh
    by_cases hlt : k < l.length
    · obtain ⟨b, off, rfl, _, _, hcell⟩ := hc (by intro e; simp [e] at hlt)
      have hck := hcell k hlt
      have hs := Lib.hid (comB_snoc l lb k hlt)
      have ht := Lib.hid (comB_hit l lb k hlt)
      go_wp2_with (go_at_call 110; refine (l1Has_any B _ _ _ _ hb).mono ?_; rintro e w' ⟨rfl, rfl⟩)
      · go_ret
        have h : hasB lb l[k] = true := by assumption
        exact ⟨ret_bool (ht.out h).symm, rfl⟩
      · have h : hasB lb l[k] = false := by assumption
        go_round
        case rel => exact ⟨k + 1, by omega, by go_num, rfl, by rw [hs.out, H.out, h]; rfl⟩
        case measure => simp [intOf]; omega
    · have hkl : k = l.length := by omega
      go_wp2
      go_ret
      subst hkl
      exact ⟨ret_bool (by have := H.out; rw [List.take_length] at this; exact this.symm), rfl⟩
end Go.Proofs.YtmfhlojmoehmiaaGreat

/- the run of a cache with a closure of three cells -/
namespace Go.Proofs.YtmfhlojmoehmiaaGreat
open Go.RowKit

structure Each3 (f : FuncId) (c1 c2 c3 : Value) (base : Nat) (c : Ca) (l : List Int) (J : Nat → (Nat → Prop) → World → Prop) : Prop where
  lt : ∀ j U w, J j U w → ∀ q, U q → q < w.heap.size
  keep : ∀ j U w w' S, J j U w → Chg S w w' → (∀ q, U q → ¬ S q) → (∀ q, S q → base ≤ q) → J j U w'
  call : ∀ j U w xb xa, j < l.length → J j U w → RI U w xb (runC c (l.take j)).pages → RI U w xa (runC c (l.take (j + 1))).pages →
    Calls Tryz.prog f #[.int .i64 (j : Int), xb, xa, .bool (!hasB (runC c (l.take j)).pages (l.getD j 0)), c1, c2, c3] w (Ret fun v' w' => v' = .tuple #[] ∧ ∃ U', J (j + 1) U' w' ∧ Chg U w w' ∧ ∀ q, U' q → U q ∨ w.heap.size ≤ q)

set_option maxRecDepth 100000 in
set_option maxHeartbeats 2000000 in
theorem run3_any (f : FuncId) (c1 c2 c3 : Value) (p k : Int) (v : Value) (l : List Int) (J : Nat → (Nat → Prop) → World → Prop) (U0 : Nat → Prop) (w : World) (hJ : Each3 f c1 c2 c3 w.heap.size (newC p k) l J) (h0 : J 0 U0 w)
    (hcf : ∀ x0 x1 x2 x3 (w : World), (callFunc f #[x0, x1, x2, x3, c1, c2, c3]).run Tryz.prog w = .ok (.enter f #[x0, x1, x2, x3, c1, c2, c3]) w)
    (hv : RI U0 w v l) (hok : Ok (newC p k)) :
    Calls Tryz.prog 101 #[.int .i64 p, .int .i64 k, v, .func (.func f) #[] #[c1, c2, c3]] w (Ret fun v' w' => v' = .tuple #[] ∧ ∃ U', J l.length U' w' ∧ Chg U0 w w' ∧ ∀ q, U' q → U0 q ∨ w.heap.size ≤ q) := by
  obtain ⟨a, cap, rfl, hcap, hmax, hlen, _, hc⟩ := id hv
  go_enter Tryz.func101, Tryz.ntmps101
  go_wp2_with fail
  go_loopw [18] (fun i wr => ∃ (j : Nat) (pv mv : Value) (U : Nat → Prop), j ≤ l.length ∧ i = .int .i64 j ∧ MC w.heap.size wr w.heap.size (runC (newC p k) (l.take j)) pv mv ∧ J j U wr ∧ Chg U0 w wr ∧
      (∀ q, U q → U0 q ∨ w.heap.size ≤ q) ∧ (∀ q, foot w.heap.size pv mv q → ¬ U q)) (fun i _ => l.length - (intOf i).toNat)
  case atStart =>
    refine ⟨0, .slice none 0 0, .slice none 0 0, U0, Nat.zero_le _, rfl, ⟨Box.new w _ _ _ _ _ _, OI.nil _ _, OI.nil _ _, fun q hq => ?_, fun hq => ?_, fun hq => ?_⟩, hJ.keep _ _ _ _ No h0 ((Chg.refl No w).alloc _) (fun _ _ e => e) (fun _ e => e.elim), (Chg.refl U0 w).alloc _, fun q hq => .inl hq, fun q hq hU => ?_⟩
    · simp [own, Value.ownBlock] at hq
    · simp [own, Value.ownBlock] at hq
    · simp [own, Value.ownBlock] at hq
    · have := hJ.lt _ _ _ h0 q hU
      rcases hq with rfl | hq | hq
      · omega
      · simp [own, Value.ownBlock] at hq
      · simp [own, Value.ownBlock] at hq
  case round =>
    obtain ⟨j, pv, mv, U, hj, rfl, hM, hJj, hch, hU, hdis⟩ := hrel
    by_cases hlt : j < l.length
    · obtain ⟨br, off, rfl, hbr, hbl, hcell⟩ := hc (by intro e; simp [e] at hlt)
      have hcl := (hch.cellD br (off + j) hbl hbr).trans (hcell j hlt)
      obtain ⟨ck, hck⟩ : ∃ ck, runC (newC p k) (l.take j) = ck := ⟨_, rfl⟩
      have hokk : Ok ck := hck ▸ ok_run hok _
      have hrun := runC_snoc (newC p k) l j hlt
      have hcall := hJ.call j U
      have HC0 := hck
      obtain ⟨y, hy⟩ : ∃ y, l[j] = y := ⟨_, rfl⟩
      have hgy : l.getD j 0 = y := by rw [← hy, List.getD_eq_getElem?_getD, List.getElem?_eq_getElem hlt]; rfl
      rw [hck, hy] at hrun
      rw [hrun, hck, hgy] at hcall
      rw [hgy] at hcl
      rw [hck] at hM
      have HR := Lib.hid hrun
      have HC := Lib.hid hcall
      have hj0 : (0 : Int) ≤ (j : Int) := Int.natCast_nonneg _
      have hj1 : (j : Int) < (l.length : Int) := by omega
      have hw1 : IntKind.i64.wrap ((j : Int) + 1) = (j : Int) + 1 := IntWalk.i64_in _ (by omega)
      have HJ := Lib.hid hJ
      have HCF := Lib.hid hcf
      clear hcell hc hrun hcall hck HC0 hgy hy hJ
      obtain ⟨a1, n1, q1, rfl⟩ := hM.pages.shape
      have c2 := hM.box.c2
      go_wp2_with fail
      refine (Clone_any U _ ck.pages wr (hM.pages.read (fun q hq => hdis q (.inr (.inl hq))))).mono ?_
      rintro e w1 ⟨v1, rfl, o1, k1⟩
      have hM1 := hM.keep k1 (fun _ _ e => e)
      clear c2
      go_wp2_with fail
      refine (step_any w.heap.size w.heap.size ck y _ mv w1 hM1 (by have := hch.size; have := k1.size; omega) hokk).mono ?_
      rintro e w2 ⟨v2, rfl, rfl, hA⟩
      obtain ⟨pv2, mv2, A2⟩ := hA.am
      obtain ⟨a2, n2, q2, rfl⟩ := A2.mc.pages.shape
      have c2 := A2.mc.box.c2
      have hz1 := k1.size
      have hz2 := A2.ch.size
      have hd2 : ∀ q, foot w.heap.size (.slice a2 n2 q2) mv2 q → ¬ U q := fun q hq hU' => by
        rcases A2.fr q hq with h1 | h1
        · exact hdis q h1 hU'
        · have := HJ.out.lt _ _ _ hJj q hU'; omega
      go_wp2_with fail
      refine (Clone_any U _ _ w2 (A2.mc.pages.read (fun q hq => hd2 q (.inr (.inl hq))))).mono ?_
      rintro e w3 ⟨v3, rfl, o3, k3⟩
      have hz3 := k3.size
      clear c2
      have hcf := HCF.out
      go_wp2_with fail
      clear hcf
      have hlo : ∀ q, foot w.heap.size (.slice a1 n1 q1) mv q → w.heap.size ≤ q := fun q hq => by
        rcases hq with rfl | hq | hq
        · exact Nat.le_refl _
        · exact (hM.pages.lt q hq).1
        · exact (hM.marks.lt q hq).1
      have hJ3 := HJ.out.keep _ _ _ _ _ (HJ.out.keep _ _ _ _ _ (HJ.out.keep _ _ _ _ No hJj k1 (fun _ _ e => e) (fun _ e => e.elim)) A2.ch (fun q hq hq' => hdis q hq' hq) (fun q hq => hlo q hq)) k3 (fun _ _ e => e) (fun _ e => e.elim)
      have hlU := HJ.out.lt _ _ _ hJj
      refine (HC.out w3 v1 v3 hlt hJ3 (((o1.step A2.ch (fun q hq hq' => by have := (o1.lt q hq).1; have := hM.footLt q hq'; omega)).keep k3).read (fun q hq hq' => by have := (o1.lt q hq).1; have := hlU q hq'; omega))
        (o3.read (fun q hq hq' => by have := (o3.lt q hq).1; have := hlU q hq'; omega))).mono ?_
      rintro e w4 ⟨v4, rfl, rfl, U4, hJ4, k4, f4⟩
      go_wp2_with fail
      go_round
      case rel =>
        refine ⟨j + 1, .slice a2 n2 q2, mv2, U4, hlt, by go_num, ?_, hJ4, ?_, fun q hq => ?_, fun q hq hq' => ?_⟩
        · rw [HR.out]
          exact (A2.mc.keep k3 (fun _ _ e => e)).keep k4 (fun q hq => hd2 q hq)
        · refine ((((hch.keep k1).step A2.ch (fun q hq hl => ?_)).keep k3).step k4 (fun q hq hl => ?_))
          · have := hlo q hq; omega
          · rcases hU q hq with h1 | h1
            · exact h1
            · omega
        · rcases f4 q hq with h1 | h1
          · exact hU q h1
          · exact .inr (by have := hch.size; omega)
        · rcases f4 q hq' with h1 | h1
          · exact hd2 q hq h1
          · have := (A2.mc.keep k3 (fun _ _ e => e)).footLt q hq; omega
      case measure => simp [intOf]; omega
    · have hj' : j = l.length := by omega
      subst hj'
      go_wp2_with fail
      go_end0
      exact ⟨_, rfl, rfl, U, hJj, hch, hU⟩
end Go.Proofs.YtmfhlojmoehmiaaGreat

/- what a request puts out, in the reference -/
namespace Go.Proofs.YtmfhlojmoehmiaaGreat
open Go.RowKit

set_option maxRecDepth 100000 in
set_option maxHeartbeats 1000000 in
theorem l4Victims_any (A : Nat → Prop) (v : Value) (c : Ca) (x : Int) (w : World) (hv : RC A w v c) (hok : Ok c) :
    Calls Tryz.prog 112 #[v, .int .i64 x] w (Ret fun r w' => OI w.heap.size w' r (victL c x) ∧ Chg No w w') := by
  obtain ⟨pv, mv, rfl, hp, hmk⟩ := id hv
  obtain ⟨pa, pc, rfl, _, _, _, _, hcell⟩ := id hp
  obtain ⟨ma, mn, mc, rfl⟩ := hmk.shape
  have k0 := (Chg.refl No w).alloc (.cells #[.int .i64 c.pol, .int .i64 c.size, .slice pa c.pages.length pc, .slice ma mn mc, .int .i64 c.hand] 74)
  have hbox := Box.new w (.int .i64 c.pol) (.int .i64 c.size) (.slice pa c.pages.length pc) (.slice ma mn mc) (.int .i64 c.hand) 74
  cases hh : hasB c.pages x
  · by_cases hf : (c.pages.length : Int) < c.size
    · have HV : Hid (victL c x = []) := Lib.hid (by unfold victL; rw [hh]; simp [hf])
      obtain ⟨c0, c1, c2, c3, c4, fr⟩ := id hbox
      go_enter Tryz.func112, Tryz.ntmps112
      go_wp2_with fail
      refine (l1Has_any A _ _ x _ (hp.keep k0)).mono ?_
      rintro e w1 ⟨rfl, rfl⟩
      rw [hh]
      go_wp2_with fail
      go_ret
      exact ⟨_, rfl, by rw [HV.out]; exact OI.zeroAt (World.size_alloc ..) (Nat.le_succ _), k0.alloc _⟩
    · by_cases h4 : c.pol = 4
      · have HV : Hid (victL c x = diffL c.pages) := Lib.hid (by unfold victL; rw [hh]; simp [hf, h4])
        have h4' : (c.pol == 4) = true := by rw [beq_iff_eq]; exact h4
        clear h4
        obtain ⟨c0, c1, c2, c3, c4, fr⟩ := id hbox
        go_enter Tryz.func112, Tryz.ntmps112
        go_wp2_with fail
        refine (l1Has_any A _ _ x _ (hp.keep k0)).mono ?_
        rintro e w1 ⟨rfl, rfl⟩
        rw [hh]
        go_wp2_with fail
        refine (l4Sorted_any A _ _ _ (hp.keep k0)).mono ?_
        rintro e w2 ⟨v2, rfl, o2, k2⟩
        go_wp2_with fail
        go_ret
        exact ⟨_, rfl, by rw [HV.out]; exact o2.weak k0.size, k0.keep k2⟩
      · have hvi := victim_in hok hf
        have hfe : (c.pages.length : Int) = c.size := by have := hok.len; omega
        have HV : Hid (victL c x = [c.pages.getD (victim c) 0]) := Lib.hid (by unfold victL; rw [hh]; simp [hf, h4])
        have h4' : (c.pol == 4) = false := by rw [beq_eq_false_iff_ne]; exact h4
        have hvc := hv.keep k0
        obtain ⟨b, off, rfl, _, hb, hcl⟩ := hcell (by intro e; simp [e] at hvi)
        have hcv := (k0.cellD b (off + victim c) hb (fun e => e)).trans (hcl (victim c) hvi)
        obtain ⟨z, hz⟩ : ∃ z, c.pages.getD (victim c) 0 = z := ⟨_, rfl⟩
        rw [hz] at hcv HV
        have hb1 := Nat.lt_of_lt_of_le hb k0.size
        have hvi0 : (0 : Int) ≤ (victim c : Int) := Int.natCast_nonneg _
        have hvi1 : (victim c : Int) < (c.pages.length : Int) := by omega
        obtain ⟨c0, c1, c2, c3, c4, fr⟩ := id hbox
        clear hcl hcell hz
        have HOK := Lib.hid hok
        have HVC := Lib.hid hvc
        clear hvc
        go_enter Tryz.func112, Tryz.ntmps112
        go_wp2_with fail
        refine (l1Has_any A _ _ x _ (hp.keep k0)).mono ?_
        rintro e w1 ⟨rfl, rfl⟩
        rw [hh]
        go_wp2_with fail
        refine wp_region_K (S := fun W => Box W w.heap.size (.int .i64 c.pol) (.int .i64 c.size) (.slice (some ⟨b, off, none⟩) c.pages.length pc) (.slice ma mn mc) (.int .i64 c.hand)) (k := 4) (by kernel_rfl) ?_
        have hd0 : Chg No (w.alloc (.cells #[.int .i64 c.pol, .int .i64 c.size, .slice (some ⟨b, off, none⟩) c.pages.length pc, .slice ma mn mc, .int .i64 c.hand] 74)) _ := (Chg.refl No _).drew
        have hS : (fun W => Box W w.heap.size (.int .i64 c.pol) (.int .i64 c.size) (.slice (some ⟨b, off, none⟩) c.pages.length pc) (.slice ma mn mc) (.int .i64 c.hand)) _ := hbox.keep hd0
        have hcv := (hd0.cellD b (off + victim c) hb1 (fun e => e)).trans hcv
        have hvc := HVC.out.keep hd0
        have kd := k0.keep hd0
        clear c0 c1 c2 c3 c4 fr hbox
        generalize World.drew _ = W at hS hcv hvc kd ⊢
        clear hd0
        refine wpAnyK_take0 0 (.pointer (some ⟨w.heap.size, 2, none⟩)) rfl (by kernel_rfl) (fun _ _ _ h => h) hS rfl (by intro w; go_simp) ?_
        simp only [List.getElem_toArray, List.getElem_cons_zero, Act.put, List.setIfInBounds_toArray, List.set_cons_zero, List.set_cons_succ]
        refine wpAnyK_take 1 (.slice (some ⟨b, off, none⟩) c.pages.length pc) rfl (by kernel_rfl) (fun _ _ _ h => h) hS rfl (by rintro w ⟨c0, c1, c2, c3, c4, fr⟩; go_simp) ?_
        simp only [List.getElem_toArray, List.getElem_cons_succ, List.getElem_cons_zero, Act.put, List.setIfInBounds_toArray, List.set_cons_zero, List.set_cons_succ]
        refine wpAnyK_1 2 (by kernel_rfl) (wpOpK' rfl rfl ?_)
        intro K hK
        obtain ⟨c0, c1, c2, c3, c4, fr⟩ := id hS
        unfold Oper.wp execOp
        go_simp
        refine hK.out _ _ hS ?_
        clear hK K c0 c1 c2 c3 c4 fr
        simp only [List.setIfInBounds_toArray]
        refine wpAnyK_1 3 (by kernel_rfl) (wpOpK' rfl rfl ?_)
        intro K hK
        refine ocall (f := 174) (args := #[.agg #[.int .i64 c.pol, .int .i64 c.size, .slice (some ⟨b, off, none⟩) c.pages.length pc, .slice ma mn mc, .int .i64 c.hand]]) (by go_simp) (l4Victim_any A _ c W hvc HOK.out hfe) (fun v1 W1 h1 => hK.out _ _ (hS.keep h1.2) ?_)
        obtain ⟨rfl, k1⟩ := h1
        clear hK K
        simp only [List.getElem_toArray, List.getElem_cons_succ, List.getElem_cons_zero, Act.put, List.setIfInBounds_toArray, List.set_cons_zero, List.set_cons_succ]
        have hcv := (k1.cellD b (off + victim c) (Nat.lt_of_lt_of_le hb kd.size) (fun e => e)).trans hcv
        have k2 := kd.keep k1
        have hsz := k2.size
        refine wpAnyK_tail 4 rfl (by kernel_rfl) ?_
        simp only [List.drop_succ_cons, List.drop_zero]
        clear hS
        go_wp2_with fail
        go_ret
        exact ⟨_, rfl, by rw [HV.out]; exact OI.one hsz, k2.alloc _⟩
  · have HV : Hid (victL c x = []) := Lib.hid (by unfold victL; rw [hh]; rfl)
    obtain ⟨c0, c1, c2, c3, c4, fr⟩ := id hbox
    go_enter Tryz.func112, Tryz.ntmps112
    go_wp2_with fail
    refine (l1Has_any A _ _ x _ (hp.keep k0)).mono ?_
    rintro e w1 ⟨rfl, rfl⟩
    rw [hh]
    go_wp2_with fail
    go_ret
    exact ⟨_, rfl, by rw [HV.out]; exact OI.zeroAt (World.size_alloc ..) (Nat.le_succ _), k0.alloc _⟩
end Go.Proofs.YtmfhlojmoehmiaaGreat

/- VictimsOf, both sides -/
namespace Go.Proofs.YtmfhlojmoehmiaaGreat
open Go.RowKit

theorem putL_old {l : List Int} {n : Int} (h : Up l) (hn : n ∈ l) : putL l n = l := by
  induction l with
  | nil => cases hn
  | cons a l ih =>
    unfold Up at h
    rw [List.pairwise_cons] at h
    unfold putL
    rcases List.mem_cons.1 hn with rfl | hn
    · simp
    · have := h.1 n hn
      rw [if_pos this, ih h.2 hn]
theorem foldl_put_nod : ∀ (l acc : List Int), Up acc → (l.foldl putL acc).length = acc.length + l.length → l.Nodup ∧ ∀ x ∈ l, x ∉ acc
  | [], acc, _, _ => ⟨List.nodup_nil, fun x h => by cases h⟩
  | a :: l, acc, hu, h => by
    rw [List.foldl_cons, List.length_cons] at h
    have h1 : ∀ (l acc : List Int), (l.foldl putL acc).length ≤ acc.length + l.length := by
      intro l
      induction l with
      | nil => simp
      | cons a l ih => intro acc; have := ih (putL acc a); have := putL_len acc a; simp only [List.foldl_cons, List.length_cons]; omega
    have h2 := h1 l (putL acc a)
    have h3 := putL_len acc a
    obtain ⟨g1, g2⟩ := foldl_put_nod l (putL acc a) (putL_up a hu) (by omega)
    have ha : a ∉ acc := fun hm => by have := congrArg List.length (putL_old hu hm); omega
    refine ⟨List.nodup_cons.2 ⟨fun hm => g2 a hm (putL_mem.2 (.inr rfl)), g1⟩, fun x hx => ?_⟩
    rcases List.mem_cons.1 hx with rfl | hx
    · exact ha
    · exact fun hm => g2 x hx (putL_mem.2 (.inl hm))
theorem goodC_nod {n : Int} {c : Ca} (h : goodC n c = true) : c.pages.Nodup := by
  simp only [goodC, Bool.and_eq_true, decide_eq_true_eq] at h
  exact (foldl_put_nod c.pages [] List.Pairwise.nil (by have := h.1.1.2; unfold diffL at this; simpa using this)).1
theorem victL_up (c : Ca) (x : Int) : Up (victL c x) := by
  unfold victL
  split
  · exact List.Pairwise.nil
  · split
    · exact diffL_up _
    · simp [Up]
theorem gone_vict {n : Int} {c : Ca} (h : goodC n c = true) (x : Int) : diffL (stay (hasB (stepC c x).pages) c.pages) = victL c x :=
  up_ext (diffL_up _) (victL_up c x) (gone_mem (goodC_ok h) (goodC_nod h) x)
def okB (n : Int) (c : Ca) (x : Int) : Bool := goodC n c && inB x 0 (n - 1)
def victV (n : Int) (c : Ca) (x : Int) : List Int := if okB n c x then victL c x else []

/-- a Cache by value, laid into a block -/
theorem RCO.mc {base : Nat} {w W : World} {p k hd : Int} {pv mv : Value} {ps ms : List Int} {b : Nat} (h : RCO base w (.agg #[.int .i64 p, .int .i64 k, pv, mv, .int .i64 hd]) ⟨p, k, ps, ms, hd⟩) (hc : Chg No w W)
    (hb : Box W b (.int .i64 p) (.int .i64 k) pv mv (.int .i64 hd)) (hl : w.heap.size ≤ b) : MC base W b ⟨p, k, ps, ms, hd⟩ pv mv := by
  obtain ⟨pv', mv', e, h1, h2, h3⟩ := h
  simp only [Value.agg.injEq, Array.mk.injEq, List.cons.injEq, and_true, true_and] at e
  obtain ⟨rfl, rfl⟩ := e
  exact ⟨hb, h1.keep hc, h2.keep hc, h3, fun hq => by have := (h1.lt _ hq).2; omega, fun hq => by have := (h2.lt _ hq).2; omega⟩
end Go.Proofs.YtmfhlojmoehmiaaGreat

/- a step of a valid cache: plain -/
namespace Go.Proofs.YtmfhlojmoehmiaaGreat

theorem putL_new {l : List Int} {n : Int} (hn : n ∉ l) : (putL l n).length = l.length + 1 := by
  induction l with
  | nil => rfl
  | cons a l ih =>
    rw [List.mem_cons, not_or] at hn
    unfold putL
    split
    · rw [List.length_cons, ih hn.2, List.length_cons]
    · rw [if_neg (fun e => hn.1 e.symm)]; rfl
theorem foldl_put_new : ∀ (l acc : List Int), l.Nodup → (∀ x ∈ l, x ∉ acc) → (l.foldl putL acc).length = acc.length + l.length
  | [], acc, _, _ => rfl
  | a :: l, acc, hn, h => by
    rw [List.nodup_cons] at hn
    rw [List.foldl_cons, foldl_put_new l (putL acc a) hn.2 (fun x hx hm => by
      rcases putL_mem.1 hm with hm | rfl
      · exact h x (List.mem_cons_of_mem _ hx) hm
      · exact hn.1 hx), putL_new (h a (List.mem_cons_self ..)), List.length_cons]
    omega
theorem diffL_nod {l : List Int} (h : l.Nodup) : (diffL l).length = l.length := by
  have := foldl_put_new l [] h (fun x _ hm => by cases hm)
  simpa [diffL] using this
theorem goodC_iff (n : Int) (c : Ca) : goodC n c = true ↔ (1 ≤ n ∧ n ≤ 8) ∧ (1 ≤ c.pol ∧ c.pol ≤ 7) ∧ (1 ≤ c.size ∧ c.size ≤ 6) ∧ (c.pages.length : Int) ≤ c.size ∧ (∀ a ∈ c.pages, 0 ≤ a ∧ a ≤ n - 1) ∧ c.pages.Nodup ∧ marksB c = true ∧ handB c = true := by
  constructor
  · intro h
    have hn := goodC_nod h
    unfold goodC at h
    simp only [Bool.and_eq_true, inB_iff, decide_eq_true_eq, belowB, List.all_eq_true] at h
    obtain ⟨⟨⟨⟨⟨⟨⟨h1, h2⟩, h3⟩, h4⟩, h5⟩, h6⟩, h7⟩, h8⟩ := h
    exact ⟨h1, h2, h3, h4, h5, hn, h7, h8⟩
  · rintro ⟨h1, h2, h3, h4, h5, h6, h7, h8⟩
    unfold goodC
    simp only [Bool.and_eq_true, inB_iff, decide_eq_true_eq, belowB, List.all_eq_true]
    exact ⟨⟨⟨⟨⟨⟨⟨h1, h2⟩, h3⟩, h4⟩, h5⟩, diffL_nod h6⟩, h7⟩, h8⟩
/-- what a step holds: the item, and nothing but it and what was held -/
theorem step_mem {c : Ca} (x : Int) (hok : Ok c) : (∀ a ∈ (stepC c x).pages, a ∈ c.pages ∨ a = x) ∧ x ∈ (stepC c x).pages := by
  have hs := hok.size
  have hl := hok.len
  unfold stepC
  cases hh : hasB c.pages x
  · rw [if_neg (by simp)]
    unfold faultC
    by_cases h6 : c.pol = 6
    · rw [if_pos h6]
      unfold clockC
      by_cases hf : (c.pages.length : Int) < c.size
      · rw [if_pos hf]
        simp
      · rw [if_neg hf]
        have hv : (turned c).2 < c.pages.length := by
          have := victim_in hok hf
          unfold victim at this
          rwa [if_neg (by omega), if_neg (by omega), if_pos h6] at this
        refine ⟨fun a ha => ?_, ?_⟩
        · rcases List.mem_or_eq_of_mem_set ha with ha | rfl
          · exact .inl ha
          · exact .inr rfl
        · exact List.mem_iff_getElem.2 ⟨(turned c).2, by simpa using hv, by simp⟩
    · rw [if_neg h6]
      refine ⟨fun a ha => ?_, List.mem_cons_self ..⟩
      rcases List.mem_cons.1 ha with rfl | ha
      · exact .inr rfl
      · left
        split at ha
        · split at ha
          · cases ha
          · exact List.mem_of_mem_eraseIdx ha
        · exact ha
  · rw [if_pos rfl]
    rcases atI_spec c.pages x with ⟨_, k, hk, he⟩ | ⟨hn, _⟩
    · have hx : x ∈ c.pages := by simpa [hasB] using hh
      have hkx : c.pages.getD k 0 = x := by
        have e2 : atI c.pages x = (c.pages.idxOf x : Int) := by rw [atI, if_pos hx]
        have e3 : k = c.pages.idxOf x := by omega
        subst e3
        rw [List.getD_eq_getElem?_getD, List.getElem?_eq_getElem hk]
        simp
      rw [he, Int.toNat_natCast]
      unfold hitC
      split
      · refine ⟨fun a ha => ?_, by rw [hkx]; exact List.mem_cons_self ..⟩
        rcases List.mem_cons.1 ha with rfl | ha
        · exact .inr hkx
        · exact .inl (List.mem_of_mem_eraseIdx ha)
      · split
        · exact ⟨fun a ha => .inl ha, hx⟩
        · split <;> exact ⟨fun a ha => .inl ha, hx⟩
    · rw [hn] at hh; cases hh
theorem step_len {c : Ca} (x : Int) : (stepC c x).pages.length ≤ c.pages.length + 1 := by
  unfold stepC
  split
  · unfold hitC
    split
    · simp only [List.length_cons]
      have := List.length_eraseIdx_le c.pages (atI c.pages x).toNat
      omega
    · split
      · exact Nat.le_succ _
      · split <;> exact Nat.le_succ _
  · unfold faultC
    split
    · unfold clockC
      split
      · simp
      · simp
    · simp only [List.length_cons]
      split
      · split
        · simp
        · have := List.length_eraseIdx_le c.pages (victim c)
          omega
      · omega
theorem turn_01 (sz : Nat) (f : Nat) : ∀ (m : List Int) (h : Nat), (∀ x ∈ m, 0 ≤ x ∧ x ≤ 1) → ∀ x ∈ (turn sz f m h).1, 0 ≤ x ∧ x ≤ 1 := by
  induction f with
  | zero => intro m h hm; exact hm
  | succ f ih =>
    intro m h hm
    unfold turn
    split
    · exact ih _ _ (mem_set hm (by omega))
    · exact hm
theorem good_step {n x : Int} {c : Ca} (h : goodC n c = true) (hx : 0 ≤ x ∧ x ≤ n - 1) : goodC n (stepC c x) = true := by
  have hok := goodC_ok h
  have hok' := ok_step hok x
  rw [goodC_iff] at h ⊢
  obtain ⟨h1, h2, h3, h4, h5, h6, h7, h8⟩ := h
  refine ⟨h1, hok'.pol, hok'.size, hok'.len, fun a ha => ?_, nod_step h6 x, ?_, ?_⟩
  · rcases (step_mem x hok).1 a ha with ha | rfl
    · exact h5 a ha
    · exact hx
  · unfold marksB at h7
    unfold stepC
    cases hh : hasB c.pages x
    · rw [if_neg (by simp)]
      have hsz := hok.size
      by_cases h6' : c.pol = 6
      · rw [if_neg (by omega), if_pos h6'] at h7
        simp only [Bool.and_eq_true, decide_eq_true_eq, List.all_eq_true, inB_iff] at h7
        unfold faultC
        rw [if_pos h6']
        unfold marksB clockC
        rw [if_neg (by split <;> (simp only; omega))]
        split
        · simp only [Bool.and_eq_true, decide_eq_true_eq, List.all_eq_true, inB_iff]
          refine ⟨by simp [h7.1], fun m hm => ?_⟩
          rcases List.mem_append.1 hm with hm | hm
          · exact h7.2 m hm
          · simp at hm; omega
        · simp only [Bool.and_eq_true, decide_eq_true_eq, List.all_eq_true, inB_iff]
          have hh2 := hok.hand
          obtain ⟨t1, _, _⟩ := turn_props c.size.toNat (by omega) (c.marks.length + 1) c.marks c.hand.toNat (by omega)
          refine ⟨by rw [List.length_set, List.length_set]; unfold turned; rw [t1, h7.1], ?_⟩
          exact mem_set (turn_01 _ _ _ _ h7.2) (by omega)
      · unfold faultC
        rw [if_neg h6']
        by_cases h5' : c.pol = 5
        · rw [if_pos h5'] at h7
          simp only [Bool.and_eq_true, decide_eq_true_eq, List.all_eq_true, inB_iff] at h7
          unfold marksB
          rw [if_pos (by simpa using h5')]
          simp only [Bool.and_eq_true, decide_eq_true_eq, List.all_eq_true, inB_iff, if_pos h5']
          by_cases hf : (c.pages.length : Int) = c.size
          · simp only [if_pos hf]
            rw [if_neg (by omega)]
            have hv := victim_lt hok (by omega) h6'
            refine ⟨by rw [List.length_cons, List.length_cons, List.length_eraseIdx_of_lt hv, List.length_eraseIdx_of_lt (by omega), h7.1], fun m hm => ?_⟩
            rcases List.mem_cons.1 hm with rfl | hm
            · omega
            · exact h7.2 m (List.mem_of_mem_eraseIdx hm)
          · simp only [if_neg hf]
            refine ⟨by rw [List.length_cons, List.length_cons, h7.1], fun m hm => ?_⟩
            rcases List.mem_cons.1 hm with rfl | hm
            · omega
            · exact h7.2 m hm
        · rw [if_neg h5', if_neg h6'] at h7
          unfold marksB
          rw [if_neg (by simpa using h5'), if_neg (by simpa using h6')]
          simpa [if_neg h5'] using h7
    · rw [if_pos rfl]
      rcases atI_spec c.pages x with ⟨_, k, hk, he⟩ | ⟨hn, _⟩
      · rw [he, Int.toNat_natCast]
        unfold hitC
        by_cases h17 : c.pol = 1 ∨ c.pol = 7
        · rw [if_pos h17]
          rw [if_neg (by omega), if_neg (by omega)] at h7
          unfold marksB
          rw [if_neg (by simp only; omega), if_neg (by simp only; omega)]
          exact h7
        · rw [if_neg h17]
          by_cases h5' : c.pol = 5
          · rw [if_pos h5'] at h7 ⊢
            unfold marksB
            rw [if_pos (by simpa using h5')]
            simp only [Bool.and_eq_true, decide_eq_true_eq, List.all_eq_true, inB_iff] at h7 ⊢
            refine ⟨by rw [List.length_set, h7.1], mem_set h7.2 ?_⟩
            have := h7.2 _ (getD_mem (l := c.marks) (i := k) (by omega))
            omega
          · rw [if_neg h5'] at h7 ⊢
            by_cases h6' : c.pol = 6
            · rw [if_pos h6'] at h7 ⊢
              unfold marksB
              rw [if_neg (by simpa using h5'), if_pos (by simpa using h6')]
              simp only [Bool.and_eq_true, decide_eq_true_eq, List.all_eq_true, inB_iff] at h7 ⊢
              exact ⟨by rw [List.length_set, h7.1], mem_set h7.2 (by omega)⟩
            · rw [if_neg h6'] at h7 ⊢
              unfold marksB
              rw [if_neg h5', if_neg h6']
              exact h7
      · rw [hn] at hh; cases hh
  · unfold handB at h8
    unfold stepC
    cases hh : hasB c.pages x
    · rw [if_neg (by simp)]
      have hsz := hok.size
      by_cases h6' : c.pol = 6
      · unfold faultC
        rw [if_pos h6']
        unfold handB clockC
        by_cases hf : (c.pages.length : Int) < c.size
        · rw [if_pos hf]
          rw [if_neg (by omega)] at h8
          have h0 : c.hand = 0 := by simpa using h8
          split
          · rw [inB_iff]; simp only; omega
          · simpa using h0
        · rw [if_neg hf]
          rw [if_pos ⟨by simpa using h6', by simp; omega⟩, inB_iff]
          simp only
          have := Int.emod_nonneg ((turned c).2 + 1 : Int) (by omega : c.size ≠ 0)
          have := Int.emod_lt_of_pos ((turned c).2 + 1 : Int) (by omega : 0 < c.size)
          omega
      · unfold faultC
        rw [if_neg h6']
        rw [if_neg (fun e => h6' e.1)] at h8
        unfold handB
        rw [if_neg (fun e => h6' e.1)]
        exact h8
    · rw [if_pos rfl]
      rcases atI_spec c.pages x with ⟨_, k, hk, he⟩ | ⟨hn, _⟩
      · rw [he, Int.toNat_natCast]
        unfold hitC
        split
        · rename_i h17
          rw [if_neg (by omega)] at h8
          unfold handB
          rw [if_neg (by simp only; omega)]
          exact h8
        · split
          · exact h8
          · split
            · exact h8
            · exact h8
      · rw [hn] at hh; cases hh
/-- each page held is put out or held again -/
theorem vict_or {n x : Int} {c : Ca} (h : goodC n c = true) (a : Int) (ha : a ∈ c.pages) : hasB (victL c x) a = !hasB (stepC c x).pages a := by
  rw [← gone_vict h x]
  have : a ∈ diffL (stay (hasB (stepC c x).pages) c.pages) ↔ a ∉ (stepC c x).pages := by
    rw [diffL_mem, stay, List.mem_filter]
    simp [hasB, ha]
  cases h1 : hasB (stepC c x).pages a
  · have h2 : a ∉ (stepC c x).pages := by simpa [hasB] using h1
    have := this.2 h2
    simpa [hasB] using this
  · have h2 : a ∈ (stepC c x).pages := by simpa [hasB] using h1
    have : a ∉ diffL (stay (hasB (stepC c x).pages) c.pages) := fun hm => this.1 hm h2
    simpa [hasB] using this
theorem vict_hit {c : Ca} {x : Int} (h : hasB c.pages x = true) : victL c x = [] := by
  unfold victL
  rw [h]
  rfl
end Go.Proofs.YtmfhlojmoehmiaaGreat

/- CacheLRU and CacheMRU: what a smaller cache holds, a greater one holds: plain -/
namespace Go.Proofs.YtmfhlojmoehmiaaGreat

theorem erase_at (l : List Int) (x : Int) (h : x ∈ l) : l.getD (atI l x).toNat 0 = x ∧ l.eraseIdx (atI l x).toNat = l.erase x := by
  have e2 : atI l x = (l.idxOf x : Int) := by rw [atI, if_pos h]
  rw [e2, Int.toNat_natCast]
  have hk := List.idxOf_lt_length_of_mem h
  refine ⟨?_, ?_⟩
  · rw [List.getD_eq_getElem?_getD, List.getElem?_eq_getElem hk]
    simp
  · exact (List.erase_eq_eraseIdx_of_idxOf rfl).symm
theorem step_1 (c : Ca) (x : Int) (h : c.pol = 1) : (stepC c x).pages = if x ∈ c.pages then x :: c.pages.erase x else x :: (if (c.pages.length : Int) = c.size then c.pages.eraseIdx (c.pages.length - 1) else c.pages) := by
  unfold stepC
  by_cases hx : x ∈ c.pages
  · obtain ⟨e1, e2⟩ := erase_at c.pages x hx
    rw [if_pos (hasB_true.2 hx), if_pos hx]
    unfold hitC
    rw [if_pos (.inl h)]
    simp only [e1, e2]
  · rw [if_neg (by rw [hasB_true]; exact hx), if_neg hx]
    unfold faultC victim
    simp [h]
theorem step_7 (c : Ca) (x : Int) (h : c.pol = 7) : (stepC c x).pages = if x ∈ c.pages then x :: c.pages.erase x else x :: (if (c.pages.length : Int) = c.size then c.pages.eraseIdx 0 else c.pages) := by
  unfold stepC
  by_cases hx : x ∈ c.pages
  · obtain ⟨e1, e2⟩ := erase_at c.pages x hx
    rw [if_pos (hasB_true.2 hx), if_pos hx]
    unfold hitC
    rw [if_pos (.inr h)]
    simp only [e1, e2]
  · rw [if_neg (by rw [hasB_true]; exact hx), if_neg hx]
    unfold faultC victim
    simp [h]
theorem stepC_const (c : Ca) (x : Int) : (stepC c x).pol = c.pol ∧ (stepC c x).size = c.size := by
  unfold stepC
  split
  · unfold hitC
    split
    · exact ⟨rfl, rfl⟩
    · split
      · exact ⟨rfl, rfl⟩
      · split <;> exact ⟨rfl, rfl⟩
  · unfold faultC
    split
    · unfold clockC
      split <;> exact ⟨rfl, rfl⟩
    · exact ⟨rfl, rfl⟩

/-- a small and a great CacheLRU -/
structure Lru (K : Nat) (c C : Ca) : Prop where
  p1 : c.pol = 1
  p2 : C.pol = 1
  s1 : c.size = (K : Int)
  s2 : C.size = (K : Int) + 1
  pos : 1 ≤ K
  pre : c.pages = C.pages.take K
  len : C.pages.length ≤ K + 1
  nod : C.pages.Nodup
theorem Lru.step {K : Nat} {c C : Ca} (h : Lru K c C) (x : Int) : Lru K (stepC c x) (stepC C x) := by
  obtain ⟨p1, p2, s1, s2, pos, pre, len, nod⟩ := h
  have c1 := stepC_const c x
  have c2 := stepC_const C x
  have e1 := step_1 c x p1
  have e2 := step_1 C x p2
  have hn := nod_step nod x
  have hP := List.take_append_drop K C.pages
  have hkey : (stepC c x).pages = (stepC C x).pages.take K ∧ (stepC C x).pages.length ≤ K + 1 := by
    rw [e1, e2, pre]
    by_cases hx : x ∈ C.pages.take K
    · have hx2 : x ∈ C.pages := List.mem_of_mem_take hx
      have hp0 := List.length_pos_of_mem hx2
      rw [if_pos hx, if_pos hx2]
      have el : (C.pages.erase x).length = C.pages.length - 1 := List.length_erase_of_mem hx2
      refine ⟨?_, by rw [List.length_cons, el]; omega⟩
      have e3 : C.pages.erase x = (C.pages.take K).erase x ++ C.pages.drop K := by
        have := List.erase_append_left (C.pages.drop K) hx
        rwa [hP] at this
      have el2 : ((C.pages.take K).erase x).length = (C.pages.take K).length - 1 := List.length_erase_of_mem hx
      rw [List.length_take] at el2
      have hK : K = (K - 1) + 1 := by omega
      rw [hK, List.take_succ_cons]
      rw [show (K - 1 + 1) = K by omega]
      congr 1
      rw [e3]
      by_cases hl : K ≤ C.pages.length
      · rw [List.take_left' (by rw [el2]; omega)]
      · have : C.pages.drop K = [] := List.drop_eq_nil_of_le (by omega)
        rw [this, List.append_nil]
        exact (List.take_of_length_le (by rw [el2]; omega)).symm
    · rw [if_neg hx]
      by_cases hx2 : x ∈ C.pages
      · rw [if_pos hx2]
        have hd : x ∈ C.pages.drop K := by
          rw [← hP] at hx2
          exact (List.mem_append.1 hx2).resolve_left hx
        have hdl : 0 < (C.pages.drop K).length := List.length_pos_of_mem hd
        rw [List.length_drop] at hdl
        have hl : C.pages.length = K + 1 := by omega
        have e3 : C.pages.erase x = C.pages.take K ++ (C.pages.drop K).erase x := by
          have := List.erase_append_right (C.pages.drop K) hx
          rwa [hP] at this
        have hlt : (C.pages.take K).length = K := by rw [List.length_take]; omega
        refine ⟨?_, by rw [List.length_cons, List.length_erase_of_mem hx2]; omega⟩
        rw [if_pos (by rw [hlt, s1]), hlt, e3]
        have hK : K = (K - 1) + 1 := by omega
        rw [List.eraseIdx_eq_take_drop_succ]
        have hdr : (C.pages.take K).drop (K - 1 + 1) = [] := List.drop_eq_nil_of_le (by omega)
        rw [hdr, List.append_nil]
        conv => rhs; rw [hK, List.take_succ_cons]
        rw [← hK]
        congr 1
        rw [List.take_append_of_le_length (by omega)]
      · rw [if_neg hx2]
        by_cases hf : C.pages.length = K + 1
        · have hlt : (C.pages.take K).length = K := by rw [List.length_take]; omega
          rw [if_pos (by rw [hlt, s1]), if_pos (by rw [hf, s2]; rfl), hlt, hf]
          refine ⟨?_, by rw [List.length_cons, List.length_eraseIdx_of_lt (by omega)]; omega⟩
          have e4 : C.pages.eraseIdx (K + 1 - 1) = C.pages.take K := by
            rw [List.eraseIdx_eq_take_drop_succ]
            have : C.pages.drop (K + 1 - 1 + 1) = [] := List.drop_eq_nil_of_le (by omega)
            rw [this, List.append_nil]
            rfl
          have e5 : (C.pages.take K).eraseIdx (K - 1) = (C.pages.take K).take (K - 1) := by
            rw [List.eraseIdx_eq_take_drop_succ]
            have : (C.pages.take K).drop (K - 1 + 1) = [] := List.drop_eq_nil_of_le (by omega)
            rw [this, List.append_nil]
          rw [e4, e5]
          have hK : K = (K - 1) + 1 := by omega
          conv => rhs; rw [hK, List.take_succ_cons]
          rw [← hK]
        · have hg : ¬ (C.pages.length : Int) = C.size := by rw [s2]; omega
          rw [if_neg hg]
          refine ⟨?_, by rw [List.length_cons]; omega⟩
          by_cases hl : C.pages.length = K
          · have hlt : C.pages.take K = C.pages := List.take_of_length_le (by omega)
            rw [hlt, if_pos (by rw [hl, s1])]
            have e5 : C.pages.eraseIdx (C.pages.length - 1) = C.pages.take (K - 1) := by
              rw [List.eraseIdx_eq_take_drop_succ, hl]
              have : C.pages.drop (K - 1 + 1) = [] := List.drop_eq_nil_of_le (by omega)
              rw [this, List.append_nil]
            rw [e5]
            have hK : K = (K - 1) + 1 := by omega
            conv => rhs; rw [hK, List.take_succ_cons]
          · have hlt : C.pages.take K = C.pages := List.take_of_length_le (by omega)
            rw [hlt, if_neg (by rw [s1]; omega), List.take_of_length_le (by rw [List.length_cons]; omega)]
  exact ⟨c1.1.trans p1, c2.1.trans p2, c1.2.trans s1, c2.2.trans s2, pos, hkey.1, hkey.2, hn⟩

/-- a small and a great CacheMRU -/
structure Mru (K : Nat) (c C : Ca) : Prop where
  p1 : c.pol = 7
  p2 : C.pol = 7
  s1 : c.size = (K : Int)
  s2 : C.size = (K : Int) + 1
  pos : 1 ≤ K
  nod1 : c.pages.Nodup
  nod : C.pages.Nodup
  len : c.pages.length ≤ K
  two : (c.pages.length < K ∧ c.pages = C.pages) ∨ (c.pages.length = K ∧ c.pages.head? = C.pages.head? ∧ ∀ a ∈ c.pages, a ∈ C.pages)
theorem Mru.step {K : Nat} {c C : Ca} (h : Mru K c C) (x : Int) : Mru K (stepC c x) (stepC C x) := by
  obtain ⟨p1, p2, s1, s2, pos, nod1, nod, len, two⟩ := h
  have c1 := stepC_const c x
  have c2 := stepC_const C x
  have e1 := step_7 c x p1
  have e2 := step_7 C x p2
  have hn1 := nod_step nod1 x
  have hn := nod_step nod x
  have hkey : (stepC c x).pages.length ≤ K ∧ (((stepC c x).pages.length < K ∧ (stepC c x).pages = (stepC C x).pages) ∨ ((stepC c x).pages.length = K ∧ (stepC c x).pages.head? = (stepC C x).pages.head? ∧ ∀ a ∈ (stepC c x).pages, a ∈ (stepC C x).pages)) := by
    rw [e1, e2]
    rcases two with ⟨hl, he⟩ | ⟨hl, hh, hs⟩
    · rw [← he]
      have g1 : ¬ (c.pages.length : Int) = c.size := by rw [s1]; omega
      have g2 : ¬ (c.pages.length : Int) = C.size := by rw [s2]; omega
      rw [if_neg g1, if_neg g2]
      split
      · rename_i hx
        have := List.length_erase_of_mem hx
        have := List.length_pos_of_mem hx
        exact ⟨by rw [List.length_cons]; omega, .inl ⟨by rw [List.length_cons]; omega, rfl⟩⟩
      · refine ⟨by rw [List.length_cons]; omega, ?_⟩
        by_cases hk : c.pages.length + 1 < K
        · exact .inl ⟨by rw [List.length_cons]; omega, rfl⟩
        · exact .inr ⟨by rw [List.length_cons]; omega, rfl, fun a ha => ha⟩
    · by_cases hx : x ∈ c.pages
      · have hx2 := hs x hx
        rw [if_pos hx, if_pos hx2]
        have := List.length_erase_of_mem hx
        have := List.length_pos_of_mem hx
        refine ⟨by rw [List.length_cons]; omega, .inr ⟨by rw [List.length_cons]; omega, rfl, fun a ha => ?_⟩⟩
        rcases List.mem_cons.1 ha with rfl | ha
        · exact List.mem_cons_self ..
        · rw [nod1.mem_erase_iff] at ha
          exact List.mem_cons_of_mem _ (nod.mem_erase_iff.2 ⟨ha.1, hs a ha.2⟩)
      · rw [if_neg hx, if_pos (by rw [hl, s1])]
        obtain ⟨y, t, ht⟩ : ∃ y t, c.pages = y :: t := by
          rcases hc : c.pages with _ | ⟨y, t⟩
          · rw [hc] at hl; simp at hl; omega
          · exact ⟨y, t, rfl⟩
        rw [ht] at hl hh hs nod1 hx ⊢
        rw [List.nodup_cons] at nod1
        obtain ⟨g, hg⟩ : ∃ g, C.pages = y :: g := by
          rcases hc : C.pages with _ | ⟨y', g⟩
          · rw [hc] at hh; simp at hh
          · rw [hc] at hh; simp at hh; exact ⟨g, by rw [hh]⟩
        rw [hg] at hs nod ⊢
        rw [List.nodup_cons] at nod
        rw [List.eraseIdx_cons_zero]
        have htg : ∀ a ∈ t, a ∈ g := fun a ha => by
          rcases List.mem_cons.1 (hs a (List.mem_cons_of_mem _ ha)) with rfl | h
          · exact absurd ha nod1.1
          · exact h
        rw [List.length_cons] at hl
        refine ⟨by rw [List.length_cons]; omega, .inr ⟨by rw [List.length_cons]; omega, ?_, fun a ha => ?_⟩⟩
        · split <;> rfl
        · have hx0 : ¬ a = x → a ∈ t := fun h => (List.mem_cons.1 ha).resolve_left h
          by_cases hax : a = x
          · subst hax
            split <;> exact List.mem_cons_self ..
          · have hat := hx0 hax
            have hag := htg a hat
            split
            · refine List.mem_cons_of_mem _ ?_
              have : (y :: g).Nodup := List.nodup_cons.2 nod
              exact this.mem_erase_iff.2 ⟨hax, List.mem_cons_of_mem _ hag⟩
            · split
              · rw [List.eraseIdx_cons_zero]; exact List.mem_cons_of_mem _ hag
              · exact List.mem_cons_of_mem _ (List.mem_cons_of_mem _ hag)
  exact ⟨c1.1.trans p1, c2.1.trans p2, c1.2.trans s1, c2.2.trans s2, pos, hn1, hn, hkey.1, hkey.2⟩

theorem lru_run {K : Nat} (l : List Int) : ∀ {c C : Ca}, Lru K c C → Lru K (runC c l) (runC C l) := by
  induction l with
  | nil => exact fun h => h
  | cons x l ih => exact fun h => ih (h.step x)
theorem mru_run {K : Nat} (l : List Int) : ∀ {c C : Ca}, Mru K c C → Mru K (runC c l) (runC C l) := by
  induction l with
  | nil => exact fun h => h
  | cons x l ih => exact fun h => ih (h.step x)
/-- inclusion, with both policies -/
theorem stack_incl {p k : Int} (hp : p = 1 ∨ p = 7) (hk : 1 ≤ k) (l : List Int) : ∀ a ∈ (runC (newC p k) l).pages, a ∈ (runC (newC p (k + 1)) l).pages := by
  obtain ⟨K, rfl⟩ := Int.eq_ofNat_of_zero_le (by omega : 0 ≤ k)
  rcases hp with rfl | rfl
  · have h0 : Lru K (newC 1 (K : Int)) (newC 1 ((K : Int) + 1)) := ⟨rfl, rfl, rfl, rfl, by omega, by simp [newC], by simp [newC], by simp [newC]⟩
    intro a ha
    rw [(lru_run l h0).pre] at ha
    exact List.mem_of_mem_take ha
  · have h0 : Mru K (newC 7 (K : Int)) (newC 7 ((K : Int) + 1)) := ⟨rfl, rfl, rfl, rfl, by omega, by simp [newC], by simp [newC], by simp [newC], .inl ⟨by simp [newC]; omega, rfl⟩⟩
    intro a ha
    rcases (mru_run l h0).two with ⟨_, he⟩ | ⟨_, _, hs⟩
    · rwa [he] at ha
    · exact hs a ha
theorem places_fewer {p k : Int} (hp : p = 1 ∨ p = 7) (hk : 1 ≤ k) (l : List Int) : ∀ j, (placesTo (newC p (k + 1)) l j).length ≤ (placesTo (newC p k) l j).length := by
  intro j
  induction j with
  | zero => exact Nat.le_refl _
  | succ j ih =>
    unfold placesTo
    by_cases h1 : hasB (runC (newC p k) (l.take j)).pages (l.getD j 0) = true
    · have h2 : hasB (runC (newC p (k + 1)) (l.take j)).pages (l.getD j 0) = true := hasB_true.2 (stack_incl hp hk _ _ (hasB_true.1 h1))
      rw [if_pos h1, if_pos h2]
      exact ih
    · rw [if_neg h1]
      split
      · rw [List.length_append]; omega
      · rw [List.length_append, List.length_append]; simp only [List.length_cons, List.length_nil]; omega
end Go.Proofs.YtmfhlojmoehmiaaGreat

/- plain: sequences of items in order, their weights and the sum of their faults -/
namespace Go.Proofs.YtmfhlojmoehmiaaGreat

/-- the faults of a list of requests behind a cache -/
def nfC (c : Ca) : List Int → Nat
  | [] => 0
  | x :: l => (if hasB c.pages x then 0 else 1) + nfC (stepC c x) l
theorem placesTo_cons (c : Ca) (x : Int) (l : List Int) (k : Nat) : (placesTo c (x :: l) (k + 1)).length = (if hasB c.pages x then 0 else 1) + (placesTo (stepC c x) l k).length := by
  induction k with
  | zero =>
    show (if hasB c.pages x then [] else [] ++ [((0 : Nat) : Int)] : List Int).length = _
    cases hasB c.pages x <;> rfl
  | succ k ih =>
    have e : placesTo c (x :: l) (k + 1 + 1) = if hasB (runC (stepC c x) (l.take k)).pages (l.getD k 0) then placesTo c (x :: l) (k + 1) else placesTo c (x :: l) (k + 1) ++ [((k + 1 : Nat) : Int)] := rfl
    have e2 : placesTo (stepC c x) l (k + 1) = if hasB (runC (stepC c x) (l.take k)).pages (l.getD k 0) then placesTo (stepC c x) l k else placesTo (stepC c x) l k ++ [((k : Nat) : Int)] := rfl
    rw [e, e2]
    cases hasB (runC (stepC c x) (l.take k)).pages (l.getD k 0)
    · simp only [Bool.false_eq_true, if_false, List.length_append, List.length_singleton, ih]; omega
    · simp only [if_true, ih]
theorem places_nf (l : List Int) : ∀ c : Ca, (places c l).length = nfC c l := by
  induction l with
  | nil => exact fun _ => rfl
  | cons x l ih =>
    intro c
    show (placesTo c (x :: l) (l.length + 1)).length = _
    rw [placesTo_cons]
    show _ + (places (stepC c x) l).length = _
    rw [ih]
    rfl
theorem nfC_le (l : List Int) : ∀ c : Ca, nfC c l ≤ l.length := by
  induction l with
  | nil => exact fun _ => Nat.le_refl _
  | cons x l ih =>
    intro c
    have := ih (stepC c x)
    show (if hasB c.pages x then 0 else 1) + nfC (stepC c x) l ≤ l.length + 1
    split <;> omega
/-- a sum over the first numbers -/
def sumTo (g : Nat → Int) : Nat → Int
  | 0 => 0
  | m + 1 => sumTo g m + g m
theorem sumTo_congr {g h : Nat → Int} {m : Nat} (e : ∀ i, i < m → g i = h i) : sumTo g m = sumTo h m := by
  induction m with
  | zero => rfl
  | succ m ih =>
    rw [sumTo, sumTo, ih (fun i hi => e i (by omega)), e m (by omega)]
theorem sumTo_add (g : Nat → Int) (a b : Nat) : sumTo g (a + b) = sumTo g a + sumTo (fun j => g (a + j)) b := by
  induction b with
  | zero => simp [sumTo]
  | succ b ih =>
    rw [← Nat.add_assoc, sumTo, ih, sumTo, Int.add_assoc]
theorem sumTo_mul (g : Nat → Int) (a m : Nat) : sumTo g (a * m) = sumTo (fun i => sumTo (fun j => g (i * m + j)) m) a := by
  induction a with
  | zero => simp [sumTo]
  | succ a ih =>
    rw [Nat.succ_mul, sumTo_add, ih, sumTo]
theorem sumTo_scale (g : Nat → Int) (k : Int) (m : Nat) : sumTo (fun i => k * g i) m = k * sumTo g m := by
  induction m with
  | zero => simp [sumTo]
  | succ m ih => rw [sumTo, sumTo, ih, Int.mul_add]
theorem sumTo_both (g h : Nat → Int) (m : Nat) : sumTo (fun i => g i + h i) m = sumTo g m + sumTo h m := by
  induction m with
  | zero => rfl
  | succ m ih => rw [sumTo, sumTo, sumTo, ih]; omega
theorem sumTo_bound {g : Nat → Int} {B : Int} {m : Nat} (h : ∀ i, i < m → 0 ≤ g i ∧ g i ≤ B) : ∀ j, j ≤ m → 0 ≤ sumTo g j ∧ sumTo g j ≤ (j : Int) * B := by
  intro j
  induction j with
  | zero => intro _; simp [sumTo]
  | succ j ih =>
    intro hj
    have h1 := ih (by omega)
    have h2 := h j (by omega)
    rw [sumTo, show ((j + 1 : Nat) : Int) = (j : Int) + 1 from rfl, Int.add_mul]
    omega
/-- the sequence with a number, the first item first -/
def digs (n : Nat) : Nat → Nat → List Int
  | 0, _ => []
  | L + 1, t => ((t / n ^ L % n : Nat) : Int) :: digs n L t
theorem digs_len (n L t : Nat) : (digs n L t).length = L := by
  induction L with
  | zero => rfl
  | succ L ih => simp [digs, ih]
theorem digs_at (n L t : Nat) : ∀ j, j < L → (digs n L t).getD j 0 = ((t / n ^ (L - 1 - j) % n : Nat) : Int) := by
  induction L with
  | zero => exact fun j hj => absurd hj (Nat.not_lt_zero _)
  | succ L ih =>
    intro j hj
    cases j with
    | zero => rfl
    | succ j =>
      show (digs n L t).getD j 0 = _
      rw [ih j (by omega), show L + 1 - 1 - (j + 1) = L - 1 - j by omega]
theorem digs_zero (n L : Nat) : digs n L 0 = List.replicate L 0 := by
  induction L with
  | zero => rfl
  | succ L ih => rw [digs, ih, Nat.zero_div, Nat.zero_mod]; rfl
theorem digs_below {n : Nat} (hn : 0 < n) (L t : Nat) : ∀ x ∈ digs n L t, 0 ≤ x ∧ x < (n : Int) := by
  induction L with
  | zero => exact fun x hx => absurd hx (List.not_mem_nil)
  | succ L ih =>
    intro x hx
    rcases List.mem_cons.1 hx with rfl | hx
    · have := Nat.mod_lt (t / n ^ L) hn
      omega
    · exact ih x hx
theorem digs_split {n : Nat} (hn : 0 < n) (L K a b : Nat) (hk : L ≤ K) : digs n L (a * n ^ K + b) = digs n L b := by
  induction L with
  | zero => rfl
  | succ L ih =>
    rw [digs, digs, ih (by omega)]
    have e : n ^ K = n ^ L * n ^ (K - L) := by rw [← Nat.pow_add]; congr 1; omega
    have e2 : n ^ (K - L) = n * n ^ (K - L - 1) := by
      rw [← Nat.pow_succ']; congr 1; omega
    have h1 : (a * n ^ K + b) / n ^ L = a * n ^ (K - L) + b / n ^ L := by
      rw [e, show a * (n ^ L * n ^ (K - L)) + b = b + n ^ L * (a * n ^ (K - L)) by rw [Nat.add_comm, Nat.mul_left_comm], Nat.add_mul_div_left _ _ (Nat.pow_pos hn), Nat.add_comm]
    rw [h1, e2, show a * (n * n ^ (K - L - 1)) + b / n ^ L = b / n ^ L + n * (a * n ^ (K - L - 1)) by rw [Nat.add_comm, Nat.mul_left_comm], Nat.add_mul_mod_self_left]
theorem digs_first {n : Nat} (hn : 0 < n) (L a b : Nat) (ha : a < n) (hb : b < n ^ L) : digs n (L + 1) (a * n ^ L + b) = (a : Int) :: digs n L b := by
  rw [digs, digs_split hn L L a b (Nat.le_refl _)]
  have h1 : (a * n ^ L + b) / n ^ L = a := by
    rw [show a * n ^ L + b = b + n ^ L * a by rw [Nat.add_comm, Nat.mul_comm], Nat.add_mul_div_left _ _ (Nat.pow_pos hn), Nat.div_eq_of_lt hb, Nat.zero_add]
  rw [h1, Nat.mod_eq_of_lt ha]
/-- the product of the weights of a sequence -/
def wt (ws s : List Int) : Int := s.foldl (fun p x => p * ws.getD x.toNat 0) 1
theorem wt_from (ws s : List Int) : ∀ p : Int, s.foldl (fun p x => p * ws.getD x.toNat 0) p = p * wt ws s := by
  unfold wt
  induction s with
  | nil => intro p; simp
  | cons x s ih =>
    intro p
    rw [List.foldl_cons, List.foldl_cons, ih, ih (1 * _), Int.one_mul, Int.mul_assoc]
theorem wt_cons (ws : List Int) (x : Int) (s : List Int) : wt ws (x :: s) = ws.getD x.toNat 0 * wt ws s := by
  show s.foldl _ (1 * _) = _
  rw [wt_from, Int.one_mul]
theorem wt_snoc (ws s : List Int) (j : Nat) (hj : j < s.length) : wt ws (s.take (j + 1)) = wt ws (s.take j) * ws.getD (s.getD j 0).toNat 0 := by
  have e : s.getD j 0 = s[j] := by rw [List.getD_eq_getElem?_getD, List.getElem?_eq_getElem hj]; rfl
  rw [take_snoc s j hj, wt, List.foldl_append, e]
  rfl
theorem wt_bound {ws : List Int} (h : ∀ x ∈ ws, 0 ≤ x ∧ x ≤ 9) (s : List Int) : 0 ≤ wt ws s ∧ wt ws s ≤ 9 ^ s.length := by
  induction s with
  | nil => exact ⟨(by decide : (0 : Int) ≤ 1), (by decide : (1 : Int) ≤ 9 ^ 0)⟩
  | cons x s ih =>
    have hx : 0 ≤ ws.getD x.toNat 0 ∧ ws.getD x.toNat 0 ≤ 9 := by
      by_cases e : x.toNat < ws.length
      · exact h _ (getD_mem e)
      · rw [List.getD_eq_getElem?_getD, List.getElem?_eq_none (by omega)]; exact ⟨by decide, by decide⟩
    rw [wt_cons, List.length_cons, Int.pow_succ, Int.mul_comm (9 ^ s.length)]
    exact ⟨Int.mul_nonneg hx.1 ih.1, Int.le_trans (Int.mul_le_mul_of_nonneg_left ih.2 hx.1) (Int.mul_le_mul_of_nonneg_right hx.2 (by exact Int.le_trans ih.1 ih.2))⟩
/-- what a sequence adds -/
def gAdd (ws : List Int) (n L : Nat) (c : Ca) (t : Nat) : Int := wt ws (digs n L t) * (nfC c (digs n L t) : Int)
theorem sum_wt (ws : List Int) (hn : 0 < ws.length) (L : Nat) : sumTo (fun t => wt ws (digs ws.length L t)) (ws.length ^ L) = sumTo (fun a => ws.getD a 0) ws.length ^ L := by
  induction L with
  | zero => show (0 : Int) + 1 = _; rw [Int.pow_zero]; rfl
  | succ L ih =>
    rw [Nat.pow_succ', sumTo_mul, Int.pow_succ, Int.mul_comm, ← ih]
    rw [Int.mul_comm, ← sumTo_scale]
    refine sumTo_congr (fun a ha => ?_)
    rw [Int.mul_comm, ← sumTo_scale]
    refine sumTo_congr (fun b hb => ?_)
    rw [digs_first hn L a b ha hb, wt_cons]
    rfl
/-- the sum of the faults of all sequences, as the reference has it -/
def drawnC (ws : List Int) (W : Int) : Nat → Ca → Int
  | 0, _ => 0
  | L + 1, c => sumTo (fun a => ws.getD a 0 * (drawnC ws W L (stepC c (a : Int)) + if hasB c.pages (a : Int) then 0 else W ^ L)) ws.length
theorem sum_drawn (ws : List Int) (hn : 0 < ws.length) (L : Nat) : ∀ c : Ca, sumTo (gAdd ws ws.length L c) (ws.length ^ L) = drawnC ws (sumTo (fun a => ws.getD a 0) ws.length) L c := by
  induction L with
  | zero =>
    intro c
    show (0 : Int) + wt ws [] * ((0 : Nat) : Int) = 0
    simp
  | succ L ih =>
    intro c
    rw [Nat.pow_succ', sumTo_mul, drawnC]
    refine sumTo_congr (fun a ha => ?_)
    have e : sumTo (fun j => gAdd ws ws.length (L + 1) c (a * ws.length ^ L + j)) (ws.length ^ L) = sumTo (fun j => ws.getD a 0 * (gAdd ws ws.length L (stepC c (a : Int)) j + (if hasB c.pages (a : Int) then 0 else 1) * wt ws (digs ws.length L j))) (ws.length ^ L) := by
      refine sumTo_congr (fun b hb => ?_)
      unfold gAdd
      rw [digs_first hn L a b ha hb, wt_cons]
      show ws.getD a 0 * wt ws (digs ws.length L b) * (((if hasB c.pages (a : Int) then 0 else 1) + nfC (stepC c (a : Int)) (digs ws.length L b) : Nat) : Int) = _
      rw [Int.mul_assoc]
      congr 1
      split
      · simp
      · rw [Int.natCast_add, Int.mul_add, Int.one_mul]
        simp
        omega
    rw [e, sumTo_scale, sumTo_both, sumTo_scale, sum_wt ws hn L, ih]
    congr 2
    split
    · simp
    · simp
def bB : Nat → Int
  | 0 => 0
  | L + 1 => 72 * (bB L + 10000)
theorem bB_nonneg (L : Nat) : 0 ≤ bB L := by
  induction L with
  | zero => exact Int.le_refl _
  | succ L ih => rw [bB]; omega
/-- a part of a sum of the reference -/
def dPart (ws : List Int) (W : Int) (L : Nat) (c : Ca) (a : Nat) : Int := drawnC ws W L (stepC c (a : Int)) + if hasB c.pages (a : Int) then 0 else W ^ L
theorem dPart_bound {ws : List Int} {W : Int} {L : Nat} (c : Ca) (a : Nat) (hW : 0 ≤ W ^ L ∧ W ^ L ≤ 10000) (hd : ∀ c, 0 ≤ drawnC ws W L c ∧ drawnC ws W L c ≤ bB L) : 0 ≤ dPart ws W L c a ∧ dPart ws W L c a ≤ bB L + 10000 := by
  have hi := hd (stepC c (a : Int))
  unfold dPart
  split <;> omega
theorem dPart_sum {ws : List Int} (hl : ws.length ≤ 8) (h : ∀ x ∈ ws, 0 ≤ x ∧ x ≤ 9) {W : Int} {L : Nat} (c : Ca) (hW : 0 ≤ W ^ L ∧ W ^ L ≤ 10000) (hd : ∀ c, 0 ≤ drawnC ws W L c ∧ drawnC ws W L c ≤ bB L) : ∀ m, m ≤ ws.length → 0 ≤ sumTo (fun a => ws.getD a 0 * dPart ws W L c a) m ∧ sumTo (fun a => ws.getD a 0 * dPart ws W L c a) m ≤ bB (L + 1) := by
  intro m hm
  have hb := sumTo_bound (g := fun a => ws.getD a 0 * dPart ws W L c a) (B := 9 * (bB L + 10000)) (m := ws.length) (fun a ha => ?_) m hm
  · refine ⟨hb.1, Int.le_trans hb.2 ?_⟩
    have h0 := bB_nonneg L
    have : (m : Int) ≤ 8 := by omega
    refine Int.le_trans (Int.mul_le_mul_of_nonneg_right this (by omega)) ?_
    rw [bB]
    omega
  · have hx := h _ (getD_mem (l := ws) ha)
    have hy := dPart_bound (ws := ws) c a hW hd
    exact ⟨Int.mul_nonneg hx.1 hy.1, Int.le_trans (Int.mul_le_mul_of_nonneg_left hy.2 hx.1) (Int.mul_le_mul_of_nonneg_right hx.2 (by omega))⟩
theorem drawnC_succ (ws : List Int) (W : Int) (L : Nat) (c : Ca) : drawnC ws W (L + 1) c = sumTo (fun a => ws.getD a 0 * dPart ws W L c a) ws.length := rfl
theorem drawnC_bound {ws : List Int} (hl : ws.length ≤ 8) (h : ∀ x ∈ ws, 0 ≤ x ∧ x ≤ 9) {W : Int} (hW : ∀ L, L ≤ 4 → 0 ≤ W ^ L ∧ W ^ L ≤ 10000) (L : Nat) : L ≤ 4 → ∀ c : Ca, 0 ≤ drawnC ws W L c ∧ drawnC ws W L c ≤ bB L := by
  induction L with
  | zero => exact fun _ c => ⟨Int.le_refl _, Int.le_refl _⟩
  | succ L ih =>
    intro hL c
    rw [drawnC_succ]
    exact dPart_sum hl h c (hW L (by omega)) (ih (by omega)) ws.length (Nat.le_refl _)
theorem bB_le {L : Nat} (h : L ≤ 4) : bB L ≤ 300000000000 := by
  match L, h with
  | 0, _ => decide
  | 1, _ => decide
  | 2, _ => decide
  | 3, _ => decide
  | 4, _ => decide
end Go.Proofs.YtmfhlojmoehmiaaGreat

/- what each cache costs against the fewest faults: phases (plain) -/
namespace Go.Proofs.YtmfhlojmoehmiaaGreat

/-- a cache's own run is one of those that the fewest faults are asked of -/
theorem run_sim (l : List Int) : ∀ c : Ca, Ok c → Sim c.size.toNat l (· ∈ c.pages) (nfC c l) := by
  induction l with
  | nil => intro c _; rfl
  | cons x l ih =>
    intro c hok
    have hok' := ok_step hok x
    obtain ⟨h1, h2⟩ := step_mem x hok
    have hsz := (stepC_const c x).2
    have h3 := hok'.len
    have h4 := hok'.size
    have ih' := ih (stepC c x) hok'
    rw [hsz] at ih'
    refine ⟨(· ∈ (stepC c x).pages), h2, h1, ⟨(stepC c x).pages, by rw [← hsz]; omega, fun y hy => hy⟩, _, ih', ?_⟩
    by_cases hx : x ∈ c.pages
    · exact .inl ⟨hx, by show (if hasB c.pages x then 0 else 1) + _ = _; rw [if_pos (hasB_true.2 hx)]; omega⟩
    · exact .inr ⟨hx, by show (if hasB c.pages x then 0 else 1) + _ = _; rw [if_neg (by rw [hasB_true]; exact hx)]; omega⟩
theorem fewest_run {p k : Int} (hok : Ok (newC p k)) {l : List Int} {f : Nat} (h : Fewest k.toNat l f) : f ≤ nfC (newC p k) l := by
  refine h.2 _ ?_
  have := run_sim l (newC p k) hok
  have e : (fun _ : Int => False) = (· ∈ (newC p k).pages) := by funext x; simp [newC]
  rw [e]; exact this

/-- how many phases more begin -/
def cntP (k : Nat) : List Int → List Int → Nat
  | _, [] => 0
  | D, r :: l => if r ∈ D then cntP k D l else if D.length < k then cntP k (r :: D) l else cntP k [r] l + 1

theorem filter_parts (p : Int → Bool) (l : List Int) : (l.filter p).length + (l.filter fun x => !p x).length = l.length := by
  induction l with
  | nil => rfl
  | cons x l ih => cases h : p x <;> simp [h] <;> omega

/-- no sequence of caches of h pages does with less -/
theorem opt_low {h k : Nat} (hk0 : 0 < k) (hhk : h ≤ k) (l : List Int) : ∀ (S S0 : Int → Prop) (D : List Int) (e c : Nat), Fits h S0 → D.Nodup → D.length ≤ k → (∀ x, S x → S0 x ∨ x ∈ D) →
    (∀ E : List Int, E.Nodup → (∀ x ∈ E, x ∈ D ∧ ¬ S0 x) → E.length ≤ e) → Sim h l S c → (k - h + 1) * cntP k D l ≤ e + c := by
  induction l with
  | nil => intro S S0 D e c _ _ _ _ _ _; show (k - h + 1) * 0 ≤ _; omega
  | cons r l ih =>
    intro S S0 D e c hfit hn hk hS hE hs
    obtain ⟨S1, s1, s2, s3, c1, s4, s5⟩ := hs
    unfold cntP
    by_cases hr : r ∈ D
    · rw [if_pos hr]
      have := ih S1 S0 D e c1 hfit hn hk (fun x hx => by
        rcases s2 x hx with h | h
        · exact hS x h
        · exact .inr (h ▸ hr)) hE s4
      rcases s5 with ⟨_, h⟩ | ⟨_, h⟩ <;> omega
    · rw [if_neg hr]
      have hn' : (r :: D).Nodup := List.nodup_cons.2 ⟨hr, hn⟩
      have hE' : ∀ E : List Int, E.Nodup → (∀ x ∈ E, x ∈ r :: D ∧ ¬ S0 x) → E.length + c1 ≤ e + c := fun E hEn hEm => by
        rcases s5 with ⟨hsr, hc⟩ | ⟨hsr, hc⟩
        · have hr0 : S0 r := (hS r hsr).elim id (fun h => absurd h hr)
          have := hE E hEn (fun x hx => by
            obtain ⟨h1, h2⟩ := hEm x hx
            rcases List.mem_cons.1 h1 with rfl | h1
            · exact absurd hr0 h2
            · exact ⟨h1, h2⟩)
          omega
        · have h1 := hE (E.erase r) (hEn.erase r) (fun x hx => by
            have hx' := (List.Nodup.mem_erase_iff hEn).1 hx
            obtain ⟨h1, h2⟩ := hEm x hx'.2
            rcases List.mem_cons.1 h1 with rfl | h1
            · exact absurd rfl hx'.1
            · exact ⟨h1, h2⟩)
          have h2 : E.length ≤ (E.erase r).length + 1 := by rw [List.length_erase]; split <;> omega
          omega
      by_cases hlt : D.length < k
      · rw [if_pos hlt]
        have := ih S1 S0 (r :: D) (e + c - c1) c1 hfit hn' (by simp only [List.length_cons]; omega) (fun x hx => by
          rcases s2 x hx with h | h
          · exact (hS x h).imp id (List.mem_cons_of_mem _)
          · exact .inr (by rw [h]; exact List.mem_cons_self ..)) (fun E hEn hEm => by have := hE' E hEn hEm; omega) s4
        have hc : c1 ≤ e + c := by rcases s5 with ⟨_, h⟩ | ⟨_, h⟩ <;> omega
        omega
      · rw [if_neg hlt]
        have h1 := ih S1 S1 [r] 0 c1 s3 (by simp) (by simp; omega) (fun x hx => .inl hx) (fun E hEn hEm => by
          cases E with
          | nil => exact Nat.le_refl _
          | cons y E =>
            obtain ⟨h1, h2⟩ := hEm y (List.mem_cons_self ..)
            rw [List.mem_singleton] at h1
            exact absurd (h1 ▸ s1) h2) s4
        have h2 : k + 1 ≤ h + ((r :: D).filter fun x => !(@decide (S0 x) (Classical.propDecidable _))).length := by
          have hp := filter_parts (fun x => @decide (S0 x) (Classical.propDecidable _)) (r :: D)
          obtain ⟨L, hL1, hL2⟩ := hfit
          have := nodup_le (l := (r :: D).filter fun x => @decide (S0 x) (Classical.propDecidable _)) (m := L) (hn'.filter _) (fun x hx => hL2 x (by
            have := (List.mem_filter.1 hx).2
            simpa using this))
          simp only [List.length_cons] at hp
          omega
        have h3 := hE' ((r :: D).filter fun x => !(@decide (S0 x) (Classical.propDecidable _))) (hn'.filter _) (fun x hx => by
          obtain ⟨h1, h2⟩ := List.mem_filter.1 hx
          simp only [Bool.not_eq_true', decide_eq_false_iff_not] at h2
          exact ⟨h1, h2⟩)
        have h4 : (k - h + 1) * (cntP k [r] l + 1) = (k - h + 1) * cntP k [r] l + (k - h + 1) := by rw [Nat.mul_add, Nat.mul_one]
        omega

theorem opt_phases {h k : Nat} (hk0 : 0 < k) (hhk : h ≤ k) {l : List Int} {f : Nat} (hf : Fewest h l f) : (k - h + 1) * cntP k [] l ≤ f := by
  have := opt_low hk0 hhk l (fun _ => False) (fun _ => False) [] 0 f ⟨[], by simp, fun _ h => h.elim⟩ (by simp) (by simp) (fun _ h => h.elim) (fun E _ hE => by
    cases E with
    | nil => exact Nat.le_refl _
    | cons y E => have := (hE y (List.mem_cons_self ..)).1; cases this) hf.1
  omega
theorem opt_first {k : Nat} (hk : 0 < k) {r : Int} {l : List Int} {f : Nat} (hf : Fewest k (r :: l) f) : cntP k [] (r :: l) + 1 ≤ f := by
  obtain ⟨⟨S1, s1, s2, s3, c1, s4, s5⟩, _⟩ := hf
  have h1 := opt_low hk (Nat.le_refl k) l S1 S1 [r] 0 c1 s3 (by simp) (by simp; omega) (fun x hx => .inl hx) (fun E hEn hEm => by
    cases E with
    | nil => exact Nat.le_refl _
    | cons y E =>
      obtain ⟨h1, h2⟩ := hEm y (List.mem_cons_self ..)
      rw [List.mem_singleton] at h1
      exact absurd (h1 ▸ s1) h2) s4
  have e : cntP k [] (r :: l) = cntP k [r] l := by
    show (if r ∈ [] then _ else if ([] : List Int).length < k then _ else _) = _
    rw [if_neg (by simp), if_pos (by simpa using hk)]
  rw [e]
  rcases s5 with ⟨h, _⟩ | ⟨_, h⟩
  · exact h.elim
  · rw [Nat.sub_self, Nat.zero_add, Nat.one_mul] at h1; omega

/-- a cache that faults once at most for each page of a phase: 'P cache pages faulted' -/
structure Cons (k : Nat) (P : Ca → List Int → List Int → Prop) : Prop where
  old : ∀ c D F x, P c D F → x ∈ D → D.length ≤ k → D.Nodup → F.Nodup → (∀ y ∈ F, y ∈ D) → (x ∈ c.pages → P (stepC c x) D F) ∧ (x ∉ c.pages → x ∉ F ∧ P (stepC c x) D (x :: F))
  new : ∀ c D F x, P c D F → x ∉ D → D.length < k → D.Nodup → F.Nodup → (∀ y ∈ F, y ∈ D) → (x ∈ c.pages → P (stepC c x) (x :: D) F) ∧ (x ∉ c.pages → P (stepC c x) (x :: D) (x :: F))
  turn : ∀ c D F x, P c D F → x ∉ D → D.length = k → D.Nodup → F.Nodup → (∀ y ∈ F, y ∈ D) → (x ∈ c.pages → P (stepC c x) [x] []) ∧ (x ∉ c.pages → P (stepC c x) [x] [x])

theorem Cons.low {k : Nat} (hk : 0 < k) {P : Ca → List Int → List Int → Prop} (hP : Cons k P) (l : List Int) : ∀ c D F, P c D F → D.length ≤ k → D.Nodup → F.Nodup → (∀ y ∈ F, y ∈ D) →
    F.length + nfC c l ≤ k * cntP k D l + k := by
  induction l with
  | nil =>
    intro c D F _ hk hD hF hFD
    have := nodup_le hF hFD
    show _ + 0 ≤ k * 0 + k
    omega
  | cons x l ih =>
    intro c D F h hDk hD hF hFD
    have e : nfC c (x :: l) = (if hasB c.pages x then 0 else 1) + nfC (stepC c x) l := rfl
    rw [e]
    unfold cntP
    by_cases hx : x ∈ c.pages
    · rw [if_pos (hasB_true.2 hx)]
      by_cases hr : x ∈ D
      · rw [if_pos hr]
        have := ih _ _ _ ((hP.old c D F x h hr hDk hD hF hFD).1 hx) hDk hD hF hFD
        omega
      · rw [if_neg hr]
        by_cases hlt : D.length < k
        · rw [if_pos hlt]
          have := ih _ _ _ ((hP.new c D F x h hr hlt hD hF hFD).1 hx) (by simp only [List.length_cons]; omega) (List.nodup_cons.2 ⟨hr, hD⟩) hF (fun y hy => List.mem_cons_of_mem _ (hFD y hy))
          omega
        · rw [if_neg hlt]
          have h1 := ih _ _ _ ((hP.turn c D F x h hr (by omega) hD hF hFD).1 hx) (by simp; omega) (by simp) (by simp) (by simp)
          have h2 := nodup_le hF hFD
          simp only [List.length_nil] at h1
          rw [Nat.mul_add]
          omega
    · rw [if_neg (by rw [hasB_true]; exact hx)]
      by_cases hr : x ∈ D
      · rw [if_pos hr]
        obtain ⟨g1, g2⟩ := (hP.old c D F x h hr hDk hD hF hFD).2 hx
        have := ih _ _ _ g2 hDk hD (List.nodup_cons.2 ⟨g1, hF⟩) (fun y hy => by rcases List.mem_cons.1 hy with rfl | h; exact hr; exact hFD y h)
        simp only [List.length_cons] at this
        omega
      · rw [if_neg hr]
        by_cases hlt : D.length < k
        · rw [if_pos hlt]
          have := ih _ _ _ ((hP.new c D F x h hr hlt hD hF hFD).2 hx) (by simp only [List.length_cons]; omega) (List.nodup_cons.2 ⟨hr, hD⟩) (List.nodup_cons.2 ⟨fun h => hr (hFD x h), hF⟩)
            (fun y hy => by rcases List.mem_cons.1 hy with rfl | h; exact List.mem_cons_self ..; exact List.mem_cons_of_mem _ (hFD y h))
          simp only [List.length_cons] at this
          omega
        · rw [if_neg hlt]
          have h1 := ih _ _ _ ((hP.turn c D F x h hr (by omega) hD hF hFD).2 hx) (by simp; omega) (by simp) (by simp) (by simp)
          have h2 := nodup_le hF hFD
          simp only [List.length_cons, List.length_nil] at h1
          rw [Nat.mul_add]
          omega
/-- at most k times as many as phases -/
theorem Cons.phases {k : Nat} (hk : 0 < k) {P : Ca → List Int → List Int → Prop} (hP : Cons k P) {c : Ca} (h : P c [] []) (l : List Int) : nfC c l ≤ k * cntP k [] l + k := by
  have := hP.low hk l c [] [] h (by simp) (by simp) (by simp) (by simp)
  simpa using this
theorem ratio_of {h k f g n : Nat} (hhk : h ≤ k) (h1 : (k - h + 1) * n ≤ f) (h2 : g ≤ k * n + k) : ((k : Int) - h + 1) * (g - k) ≤ k * f := by
  have e : ((k - h + 1 : Nat) : Int) = (k : Int) - h + 1 := by omega
  rw [← e]
  have h3 : (g : Int) - k ≤ k * n := by
    have : ((k * n : Nat) : Int) = k * n := by simp
    omega
  refine Int.le_trans (Int.mul_le_mul_of_nonneg_left h3 (by omega)) ?_
  have h4 : (((k - h + 1) * n : Nat) : Int) ≤ f := by omega
  rw [Int.natCast_mul] at h4
  have := Int.mul_le_mul_of_nonneg_left h4 (show (0 : Int) ≤ k by omega)
  calc ((k - h + 1 : Nat) : Int) * (k * n) = k * (((k - h + 1 : Nat) : Int) * n) := by rw [← Int.mul_assoc, ← Int.mul_assoc, Int.mul_comm _ (k : Int)]
    _ ≤ k * f := this

theorem step_2 (c : Ca) (x : Int) (h : c.pol = 2) : (stepC c x).pages = if x ∈ c.pages then c.pages else x :: (if (c.pages.length : Int) = c.size then c.pages.eraseIdx (c.pages.length - 1) else c.pages) := by
  unfold stepC
  by_cases hx : x ∈ c.pages
  · rw [if_pos (hasB_true.2 hx), if_pos hx]
    unfold hitC
    simp [h]
  · rw [if_neg (by rw [hasB_true]; exact hx), if_neg hx]
    unfold faultC victim
    simp [h]
theorem step_4 (c : Ca) (x : Int) (h : c.pol = 4) : (stepC c x).pages = if x ∈ c.pages then c.pages else x :: (if (c.pages.length : Int) = c.size then [] else c.pages) := by
  unfold stepC
  by_cases hx : x ∈ c.pages
  · rw [if_pos (hasB_true.2 hx), if_pos hx]
    unfold hitC
    simp [h]
  · rw [if_neg (by rw [hasB_true]; exact hx), if_neg hx]
    unfold faultC
    simp [h]
theorem erase_last' (A R : List Int) (hR : R ≠ []) : (A ++ R).eraseIdx ((A ++ R).length - 1) = A ++ R.eraseIdx (R.length - 1) := by
  have : 0 < R.length := List.length_pos_iff.2 hR
  rw [List.length_append, List.eraseIdx_append_of_length_le (by omega)]
  congr 2
  omega
/-- CacheLRU: the pages of the phase stand in front -/
def PLru (k : Nat) (c : Ca) (D _F : List Int) : Prop := c.pol = 1 ∧ c.size = k ∧ c.pages.length ≤ k ∧ ∃ A R, c.pages = A ++ R ∧ A.Nodup ∧ ∀ x, x ∈ A ↔ x ∈ D
theorem nodup_same {a b : List Int} (ha : a.Nodup) (hb : b.Nodup) (h : ∀ x, x ∈ a ↔ x ∈ b) : a.length = b.length := Nat.le_antisymm (nodup_le ha (fun x hx => (h x).1 hx)) (nodup_le hb (fun x hx => (h x).2 hx))
theorem PLru.step {k : Nat} (hk : 0 < k) {c : Ca} {D F : List Int} (h : PLru k c D F) (x : Int) (hD : D.Nodup) (hlt : x ∈ D ∨ D.length < k) : ∀ D', (∀ y, y ∈ D' ↔ y = x ∨ y ∈ D) → ∀ F', PLru k (stepC c x) D' F' := by
  intro D' hD' F'
  obtain ⟨h1, h2, h3, A, R, h4, h5, h6⟩ := h
  obtain ⟨g1, g2⟩ := stepC_const c x
  have hAD := nodup_same h5 hD h6
  refine ⟨g1.trans h1, g2.trans h2, ?_, ?_⟩
  · rw [step_1 c x h1]
    split
    · rename_i hx
      have := List.length_erase_of_mem hx
      have := List.length_pos_of_mem hx
      simp only [List.length_cons]; omega
    · split
      · rename_i hf
        have := List.length_eraseIdx_of_lt (l := c.pages) (i := c.pages.length - 1) (by omega)
        simp only [List.length_cons]; omega
      · simp only [List.length_cons]; omega
  · rw [step_1 c x h1, h4]
    by_cases hx : x ∈ A
    · rw [if_pos (List.mem_append_left _ hx), List.erase_append, if_pos hx]
      refine ⟨x :: A.erase x, R, rfl, List.nodup_cons.2 ⟨fun h => ((List.Nodup.mem_erase_iff h5).1 h).1 rfl, h5.erase x⟩, fun y => ?_⟩
      rw [List.mem_cons, hD', List.Nodup.mem_erase_iff h5, h6]
      by_cases e : y = x
      · simp [e]
      · simp [e]
    · have hxD : x ∉ D := fun h => hx ((h6 x).2 h)
      have hlt' : D.length < k := hlt.elim (fun h => absurd h hxD) id
      have hA : ∀ R', ∃ A' R'', x :: (A ++ R') = A' ++ R'' ∧ A'.Nodup ∧ ∀ y, y ∈ A' ↔ y ∈ D' := fun R' => ⟨x :: A, R', rfl, List.nodup_cons.2 ⟨hx, h5⟩, fun y => by rw [List.mem_cons, hD', h6]⟩
      by_cases hm : x ∈ A ++ R
      · rw [if_pos hm, List.erase_append, if_neg hx]
        exact hA _
      · rw [if_neg hm]
        split
        · rename_i hf
          rw [erase_last' A R (fun e => by rw [e, List.append_nil] at hf; omega)]
          exact hA _
        · exact hA _
theorem PLru.any {k : Nat} {c : Ca} {D F : List Int} (h : PLru k c D F) (F' : List Int) : PLru k c [] F' := by
  obtain ⟨h1, h2, h3, A, R, h4, h5, h6⟩ := h
  exact ⟨h1, h2, h3, [], A ++ R, h4, by simp, by simp⟩
theorem cons_lru {k : Nat} (hk : 0 < k) : Cons k (PLru k) where
  old c D F x h hx _ hD _ _ := ⟨fun _ => h.step hk x hD (.inl hx) D (fun y => ⟨.inr, fun h => h.elim (fun e => e ▸ hx) id⟩) F, fun hn => by
    obtain ⟨_, _, _, A, R, h4, _, h6⟩ := h
    exact absurd (by rw [h4]; exact List.mem_append_left _ ((h6 x).2 hx)) hn⟩
  new c D F x h _ hlt hD _ _ := ⟨fun _ => h.step hk x hD (.inr hlt) (x :: D) (fun y => by rw [List.mem_cons]) F, fun _ => h.step hk x hD (.inr hlt) (x :: D) (fun y => by rw [List.mem_cons]) _⟩
  turn c D F x h _ _ _ _ _ := ⟨fun _ => (h.any F).step hk x (by simp) (.inr (by simpa using hk)) [x] (fun y => by simp) _, fun _ => (h.any F).step hk x (by simp) (.inr (by simpa using hk)) [x] (fun y => by simp) _⟩

/-- CacheFIFO: the pages that faulted in the phase stand in front -/
def PFifo (k : Nat) (c : Ca) (_D F : List Int) : Prop := c.pol = 2 ∧ c.size = k ∧ c.pages.length ≤ k ∧ ∃ R, c.pages = F ++ R
theorem PFifo.hit {k : Nat} {c : Ca} {D F : List Int} (h : PFifo k c D F) (x : Int) (hx : x ∈ c.pages) (D' : List Int) : PFifo k (stepC c x) D' F := by
  obtain ⟨h1, h2, h3, R, h4⟩ := h
  obtain ⟨g1, g2⟩ := stepC_const c x
  have e := step_2 c x h1
  rw [if_pos hx] at e
  exact ⟨g1.trans h1, g2.trans h2, by rw [e]; exact h3, R, by rw [e]; exact h4⟩
theorem PFifo.miss {k : Nat} {c : Ca} {D F : List Int} (h : PFifo k c D F) (x : Int) (hx : x ∉ c.pages) (hF : F.length < k) (D' : List Int) : x ∉ F ∧ PFifo k (stepC c x) D' (x :: F) := by
  obtain ⟨h1, h2, h3, R, h4⟩ := h
  obtain ⟨g1, g2⟩ := stepC_const c x
  have e := step_2 c x h1
  rw [if_neg hx] at e
  refine ⟨fun h => hx (by rw [h4]; exact List.mem_append_left _ h), g1.trans h1, g2.trans h2, ?_, ?_⟩
  · rw [e]
    split
    · rename_i hf
      have := List.length_eraseIdx_of_lt (l := c.pages) (i := c.pages.length - 1) (by omega)
      simp only [List.length_cons]; omega
    · simp only [List.length_cons]; omega
  · rw [e, h4]
    split
    · rename_i hf
      rw [erase_last' F R (fun e => by rw [e, List.append_nil] at hf; omega)]
      exact ⟨_, rfl⟩
    · exact ⟨R, rfl⟩
theorem PFifo.any {k : Nat} {c : Ca} {D F : List Int} (h : PFifo k c D F) (D' : List Int) : PFifo k c D' [] := by
  obtain ⟨h1, h2, h3, R, h4⟩ := h
  exact ⟨h1, h2, h3, F ++ R, h4⟩
theorem less_of {k : Nat} {F D : List Int} {x : Int} (hF : F.Nodup) (hFD : ∀ y ∈ F, y ∈ D) (hx : x ∉ F) (hxD : x ∈ D) (hD : D.length ≤ k) : F.length < k := by
  have := nodup_le (l := x :: F) (m := D) (List.nodup_cons.2 ⟨hx, hF⟩) (fun y hy => by rcases List.mem_cons.1 hy with rfl | h; exact hxD; exact hFD y h)
  simp only [List.length_cons] at this
  omega
theorem cons_fifo {k : Nat} (hk : 0 < k) : Cons k (PFifo k) where
  old c D F x h hx hDk hD hF hFD := ⟨fun hm => h.hit x hm D, fun hm => by
    have hxF : x ∉ F := fun e => hm (by obtain ⟨_, _, _, R, h4⟩ := h; rw [h4]; exact List.mem_append_left _ e)
    exact h.miss x hm (less_of hF hFD hxF hx hDk) D⟩
  new c D F x h _ hlt hD hF hFD := ⟨fun hm => h.hit x hm _, fun hm => (h.miss x hm (by have := nodup_le hF hFD; omega) _).2⟩
  turn c D F x h _ _ _ _ _ := ⟨fun hm => (h.any D).hit x hm _, fun hm => ((h.any D).miss x hm (by simpa using hk) _).2⟩

/-- CacheFlush: it holds the pages of the phase -/
def PFlush (k : Nat) (c : Ca) (D _F : List Int) : Prop := c.pol = 4 ∧ c.size = k ∧ c.pages.length = D.length ∧ ∀ x, x ∈ c.pages ↔ x ∈ D
theorem cons_flush {k : Nat} (_hk : 0 < k) : Cons k (PFlush k) where
  old c D F x h hx _ hD _ _ := by
    obtain ⟨h1, h2, h3, h4⟩ := h
    obtain ⟨g1, g2⟩ := stepC_const c x
    have e := step_4 c x h1
    refine ⟨fun hm => ?_, fun hm => absurd ((h4 x).2 hx) hm⟩
    rw [if_pos hm] at e
    exact ⟨g1.trans h1, g2.trans h2, by rw [e]; exact h3, by rw [e]; exact h4⟩
  new c D F x h hx hlt hD _ _ := by
    obtain ⟨h1, h2, h3, h4⟩ := h
    obtain ⟨g1, g2⟩ := stepC_const c x
    have e := step_4 c x h1
    have hm : x ∉ c.pages := fun h => hx ((h4 x).1 h)
    rw [if_neg hm, if_neg (by omega)] at e
    have : ∀ F', PFlush k (stepC c x) (x :: D) F' := fun F' => ⟨g1.trans h1, g2.trans h2, by rw [e, List.length_cons, List.length_cons, h3], fun y => by rw [e, List.mem_cons, List.mem_cons, h4]⟩
    exact ⟨fun _ => this _, fun _ => this _⟩
  turn c D F x h hx hl hD _ _ := by
    obtain ⟨h1, h2, h3, h4⟩ := h
    obtain ⟨g1, g2⟩ := stepC_const c x
    have e := step_4 c x h1
    have hm : x ∉ c.pages := fun h => hx ((h4 x).1 h)
    rw [if_neg hm, if_pos (by omega)] at e
    have : ∀ F', PFlush k (stepC c x) [x] F' := fun F' => ⟨g1.trans h1, g2.trans h2, by rw [e]; try rfl, fun y => by rw [e]⟩
    exact ⟨fun _ => this _, fun _ => this _⟩
end Go.Proofs.YtmfhlojmoehmiaaGreat

/- CacheClock faults once at most for each page of a phase (plain) -/
namespace Go.Proofs.YtmfhlojmoehmiaaGreat

/-- the pages with their marks, from the hand on -/
def qOf (p m : List Int) (h : Nat) : List (Int × Int) := (p.zip m).drop h ++ (p.zip m).take h
def turnQ : Nat → List (Int × Int) → List (Int × Int)
  | 0, Q => Q
  | _ + 1, [] => []
  | f + 1, (y, m) :: Q => if m = 1 then turnQ f (Q ++ [(y, 0)]) else (y, m) :: Q

theorem zip_set : ∀ (p m : List Int) (h : Nat) (x v : Int), (p.set h x).zip (m.set h v) = (p.zip m).set h (x, v)
  | [], m, h, x, v => by simp
  | a :: p, [], h, x, v => by cases h <;> simp
  | a :: p, b :: m, 0, x, v => by simp
  | a :: p, b :: m, h + 1, x, v => by simp [zip_set p m h x v]
theorem zip_set2 : ∀ (p m : List Int) (h : Nat) (v : Int) (hh : h < p.length), p.zip (m.set h v) = (p.zip m).set h (p[h], v)
  | a :: p, [], h, v, hh => by cases h <;> simp
  | a :: p, b :: m, 0, v, hh => by simp
  | a :: p, b :: m, h + 1, v, hh => by simp [zip_set2 p m h v (by simpa using hh)]
theorem rot_set {α : Type} (Z : List α) (h : Nat) (v : α) (hh : h < Z.length) : (Z.set h v).drop ((h + 1) % Z.length) ++ (Z.set h v).take ((h + 1) % Z.length) = (Z.drop h ++ Z.take h).tail ++ [v] := by
  have e1 : Z.drop h = Z[h] :: Z.drop (h + 1) := List.drop_eq_getElem_cons hh
  have e2 : Z.set h v = Z.take h ++ v :: Z.drop (h + 1) := by rw [List.set_eq_take_append_cons_drop, if_pos hh]
  have hlt : (Z.take h).length = h := by rw [List.length_take]; omega
  rw [e1, e2]
  simp only [List.cons_append, List.tail_cons]
  by_cases hl : h + 1 < Z.length
  · rw [Nat.mod_eq_of_lt hl]
    have e3 : (Z.take h ++ v :: Z.drop (h + 1)).drop (h + 1) = Z.drop (h + 1) := by
      rw [List.drop_append, List.drop_of_length_le (by omega), hlt, Nat.add_sub_cancel_left]; rfl
    have e4 : (Z.take h ++ v :: Z.drop (h + 1)).take (h + 1) = Z.take h ++ [v] := by
      rw [List.take_append, List.take_of_length_le (by omega), hlt, Nat.add_sub_cancel_left]; rfl
    rw [e3, e4, List.append_assoc]
  · have he : h + 1 = Z.length := by omega
    rw [he, Nat.mod_self, List.drop_length]
    simp
theorem q_front {p m : List Int} {h : Nat} (hm : m.length = p.length) (hh : h < p.length) : qOf p m h = (p[h], m.getD h 0) :: (qOf p m h).tail := by
  have hz : h < (p.zip m).length := by rw [List.length_zip]; omega
  unfold qOf
  rw [List.drop_eq_getElem_cons hz]
  simp only [List.cons_append, List.tail_cons, List.getElem_zip]
  congr 2
  rw [List.getD_eq_getElem?_getD, List.getElem?_eq_getElem (by omega)]; rfl
theorem q_turn {p : List Int} (hp : 0 < p.length) (f : Nat) : ∀ (m : List Int) (h : Nat), m.length = p.length → h < p.length →
    qOf p (turn p.length f m h).1 (turn p.length f m h).2 = turnQ f (qOf p m h) := by
  induction f with
  | zero => intro m h _ _; rfl
  | succ f ih =>
    intro m h hm hh
    rw [q_front hm hh]
    unfold turn turnQ
    by_cases h1 : m.getD h 0 = 1
    · rw [if_pos h1, if_pos h1, ih _ _ (by simpa using hm) (Nat.mod_lt _ hp)]
      congr 1
      have hz : (p.zip m).length = p.length := by rw [List.length_zip]; omega
      have := rot_set (p.zip m) h (p[h], 0) (by omega)
      rw [hz] at this
      unfold qOf
      rw [zip_set2 p m h 0 hh]
      exact this
    · rw [if_neg h1, if_neg h1]
      exact q_front hm hh
theorem q_put {p m : List Int} {h : Nat} (hm : m.length = p.length) (hh : h < p.length) (x : Int) : qOf (p.set h x) (m.set h 1) ((h + 1) % p.length) = (qOf p m h).tail ++ [(x, 1)] := by
  have hz : (p.zip m).length = p.length := by rw [List.length_zip]; omega
  have := rot_set (p.zip m) h (x, 1) (by omega)
  rw [hz] at this
  unfold qOf
  rw [zip_set]
  exact this
theorem q_hit {p m : List Int} (h : Nat) (hn : p.Nodup) {i : Nat} (hi : i < p.length) : qOf p (m.set i 1) h = (qOf p m h).map (fun z => if z.1 = p[i] then (z.1, 1) else z) := by
  have e : p.zip (m.set i 1) = (p.zip m).map (fun z => if z.1 = p[i] then (z.1, 1) else z) := by
    apply List.ext_getElem
    · simp
    · intro j h1 h2
      simp only [List.length_zip, List.length_set, List.length_map] at h1 h2
      simp only [List.getElem_zip, List.getElem_set, List.getElem_map]
      by_cases e : i = j
      · subst e; simp
      · have hne : p[j]'(by omega) ≠ p[i] := fun h => e (nod_inj hn (by omega) hi h).symm
        rw [if_neg e, if_neg hne]
  unfold qOf
  rw [e, List.map_append, List.map_drop, List.map_take]
theorem turn_stop (Q1 : List (Int × Int)) : ∀ (Q2 : List (Int × Int)) (f : Nat), (∀ z ∈ Q2, z.2 ≠ 1) → Q1 ++ Q2 ≠ [] → ∃ z Q, turnQ (Q1.length + 1 + f) (Q1 ++ Q2) = z :: Q ∧ z.2 ≠ 1 := by
  induction Q1 with
  | nil =>
    intro Q2 f h2 hne
    cases Q2 with
    | nil => exact absurd rfl hne
    | cons z Q2 =>
      have hz := h2 z (List.mem_cons_self ..)
      obtain ⟨y, m⟩ := z
      refine ⟨(y, m), Q2, ?_, hz⟩
      simp only [List.nil_append, List.length_nil]
      rw [show 0 + 1 + f = f + 1 by omega]
      unfold turnQ
      rw [if_neg hz]
  | cons z Q1 ih =>
    intro Q2 f h2 hne
    obtain ⟨y, m⟩ := z
    have e : ((y, m) :: Q1).length + 1 + f = (Q1.length + 1 + f) + 1 := by simp only [List.length_cons]; omega
    rw [e, List.cons_append]
    unfold turnQ
    by_cases hm : m = 1
    · rw [if_pos hm, List.append_assoc]
      exact ih (Q2 ++ [(y, 0)]) f (fun z hz => by
        rcases List.mem_append.1 hz with hz | hz
        · exact h2 z hz
        · rw [List.mem_singleton] at hz; subst hz; simp) (by simp)
    · rw [if_neg hm]
      exact ⟨_, _, rfl, hm⟩

/-- the three parts of the queue: not yet passed in this phase, passed once, passed twice -/
def QInv (D F : List Int) (Q : List (Int × Int)) : Prop := ∃ U V W, Q = U ++ V ++ W ∧ (U = [] ∨ W = []) ∧ (∀ z ∈ V, z.2 = 1 → z.1 ∈ D) ∧ (∀ z ∈ W, z.1 ∈ D) ∧ (∀ z ∈ V, z.1 ∈ F → z.2 = 1) ∧ (∀ z ∈ U, z.1 ∉ F)
theorem QInv.more {D D' F : List Int} {Q : List (Int × Int)} (h : QInv D F Q) (hD : ∀ y ∈ D, y ∈ D') : QInv D' F Q := by
  obtain ⟨U, V, W, h1, h2, h3, h4, h5, h6⟩ := h
  exact ⟨U, V, W, h1, h2, fun z hz e => hD _ (h3 z hz e), fun z hz => hD _ (h4 z hz), h5, h6⟩
theorem QInv.turn1 {D F : List Int} {y : Int} {Q : List (Int × Int)} (h : QInv D F ((y, 1) :: Q)) : QInv D F (Q ++ [(y, 0)]) := by
  obtain ⟨U, V, W, h1, h2, h3, h4, h5, h6⟩ := h
  cases U with
  | cons z U =>
    have hW : W = [] := h2.resolve_left (by simp)
    subst hW
    rw [List.append_nil, List.cons_append, List.cons.injEq] at h1
    obtain ⟨rfl, rfl⟩ := h1
    refine ⟨U, V ++ [(y, 0)], [], by simp, .inr rfl, fun z hz e => ?_, by simp, fun z hz e => ?_, fun z hz => h6 z (List.mem_cons_of_mem _ hz)⟩
    · rcases List.mem_append.1 hz with hz | hz
      · exact h3 z hz e
      · rw [List.mem_singleton] at hz; subst hz; simp at e
    · rcases List.mem_append.1 hz with hz | hz
      · exact h5 z hz e
      · rw [List.mem_singleton] at hz; subst hz
        exact absurd e (h6 (y, 1) (List.mem_cons_self ..))
  | nil =>
    rw [List.nil_append] at h1
    cases V with
    | cons z V =>
      rw [List.cons_append, List.cons.injEq] at h1
      obtain ⟨rfl, rfl⟩ := h1
      refine ⟨[], V, W ++ [(y, 0)], by simp, .inl rfl, fun z hz e => h3 z (List.mem_cons_of_mem _ hz) e, fun z hz => ?_, fun z hz e => h5 z (List.mem_cons_of_mem _ hz) e, by simp⟩
      rcases List.mem_append.1 hz with hz | hz
      · exact h4 z hz
      · rw [List.mem_singleton] at hz; subst hz
        exact h3 (y, 1) (List.mem_cons_self ..) rfl
    | nil =>
      rw [List.nil_append] at h1
      subst h1
      refine ⟨[], [], Q ++ [(y, 0)], by simp, .inl rfl, by simp, fun z hz => ?_, by simp, by simp⟩
      rcases List.mem_append.1 hz with hz | hz
      · exact h4 z (List.mem_cons_of_mem _ hz)
      · rw [List.mem_singleton] at hz; subst hz
        exact h4 (y, 1) (List.mem_cons_self ..)
theorem QInv.turned {D F : List Int} (f : Nat) : ∀ {Q : List (Int × Int)}, QInv D F Q → QInv D F (turnQ f Q) := by
  induction f with
  | zero => intro Q h; exact h
  | succ f ih =>
    intro Q h
    cases Q with
    | nil => exact h
    | cons z Q =>
      obtain ⟨y, m⟩ := z
      unfold turnQ
      by_cases hm : m = 1
      · rw [if_pos hm]; subst hm; exact ih h.turn1
      · rw [if_neg hm]; exact h
/-- one leaves, or all are of the phase -/
theorem QInv.out {D F : List Int} {z : Int × Int} {Q : List (Int × Int)} (h : QInv D F (z :: Q)) (hz : z.2 ≠ 1) (x : Int) (hx : x ∈ D) (hQ : ∀ z ∈ Q, z.1 ≠ x) (_hxF : x ∉ F) :
    (z.1 ∉ F ∧ QInv D (x :: F) (Q ++ [(x, 1)])) ∨ ∀ z' ∈ z :: Q, z'.1 ∈ D := by
  obtain ⟨U, V, W, h1, h2, h3, h4, h5, h6⟩ := h
  cases U with
  | cons z' U =>
    have hW : W = [] := h2.resolve_left (by simp)
    subst hW
    rw [List.append_nil, List.cons_append, List.cons.injEq] at h1
    obtain ⟨rfl, rfl⟩ := h1
    refine .inl ⟨h6 z (List.mem_cons_self ..), U, V ++ [(x, 1)], [], by simp, .inr rfl, fun w hw e => ?_, by simp, fun w hw e => ?_, fun w hw e => ?_⟩
    · rcases List.mem_append.1 hw with hw | hw
      · exact h3 w hw e
      · rw [List.mem_singleton] at hw; subst hw; exact hx
    · rcases List.mem_append.1 hw with hw | hw
      · rcases List.mem_cons.1 e with e | e
        · exact absurd e (hQ w (List.mem_append_right _ hw))
        · exact h5 w hw e
      · rw [List.mem_singleton] at hw; subst hw; rfl
    · rcases List.mem_cons.1 e with e | e
      · exact absurd e (hQ w (List.mem_append_left _ hw))
      · exact h6 w (List.mem_cons_of_mem _ hw) e
  | nil =>
    rw [List.nil_append] at h1
    cases V with
    | cons z' V =>
      rw [List.cons_append, List.cons.injEq] at h1
      obtain ⟨rfl, rfl⟩ := h1
      refine .inl ⟨fun e => hz (h5 z (List.mem_cons_self ..) e), [], V, W ++ [(x, 1)], by simp, .inl rfl, fun w hw e => h3 w (List.mem_cons_of_mem _ hw) e, fun w hw => ?_, fun w hw e => ?_, by simp⟩
      · rcases List.mem_append.1 hw with hw | hw
        · exact h4 w hw
        · rw [List.mem_singleton] at hw; subst hw; exact hx
      · rcases List.mem_cons.1 e with e | e
        · exact absurd e (hQ w (List.mem_append_left _ hw))
        · exact h5 w (List.mem_cons_of_mem _ hw) e
    | nil =>
      rw [List.nil_append] at h1
      subst h1
      exact .inr h4
theorem QInv.add {D F : List Int} {Q : List (Int × Int)} (h : QInv D F Q) (x : Int) (hx : x ∈ D) (hQ : ∀ z ∈ Q, z.1 ≠ x) : QInv D (x :: F) (Q ++ [(x, 1)]) := by
  obtain ⟨U, V, W, h1, h2, h3, h4, h5, h6⟩ := h
  have hU : ∀ z ∈ U, z.1 ∉ x :: F := fun z hz e => by
    rcases List.mem_cons.1 e with e | e
    · exact hQ z (by rw [h1]; simp [hz]) e
    · exact h6 z hz e
  have hV : ∀ z ∈ V, z.1 ∈ x :: F → z.2 = 1 := fun z hz e => by
    rcases List.mem_cons.1 e with e | e
    · exact absurd e (hQ z (by rw [h1]; simp [hz]))
    · exact h5 z hz e
  by_cases hW : W = []
  · subst hW
    refine ⟨U, V ++ [(x, 1)], [], by rw [h1]; simp, .inr rfl, fun w hw e => ?_, by simp, fun w hw e => ?_, hU⟩
    · rcases List.mem_append.1 hw with hw | hw
      · exact h3 w hw e
      · rw [List.mem_singleton] at hw; subst hw; exact hx
    · rcases List.mem_append.1 hw with hw | hw
      · exact hV w hw e
      · rw [List.mem_singleton] at hw; subst hw; rfl
  · refine ⟨U, V, W ++ [(x, 1)], by rw [h1]; simp, .inl (h2.resolve_right hW), h3, fun w hw => ?_, hV, hU⟩
    rcases List.mem_append.1 hw with hw | hw
    · exact h4 w hw
    · rw [List.mem_singleton] at hw; subst hw; exact hx
theorem QInv.hit {D F : List Int} {Q : List (Int × Int)} (h : QInv D F Q) (x : Int) (hx : x ∈ D) : QInv D F (Q.map (fun z => if z.1 = x then (z.1, 1) else z)) := by
  obtain ⟨U, V, W, h1, h2, h3, h4, h5, h6⟩ := h
  have hm : ∀ (L : List (Int × Int)) (z : Int × Int), z ∈ L.map (fun z => if z.1 = x then (z.1, 1) else z) → ∃ z' ∈ L, z.1 = z'.1 ∧ (z = z' ∨ (z.1 = x ∧ z.2 = 1)) := fun L z hz => by
    obtain ⟨z', h', rfl⟩ := List.mem_map.1 hz
    by_cases e : z'.1 = x
    · exact ⟨z', h', by rw [if_pos e], .inr (by rw [if_pos e]; exact ⟨e, rfl⟩)⟩
    · exact ⟨z', h', by rw [if_neg e], .inl (by rw [if_neg e])⟩
  refine ⟨_, _, _, by rw [h1, List.map_append, List.map_append], ?_, fun z hz e => ?_, fun z hz => ?_, fun z hz e => ?_, fun z hz => ?_⟩
  · rcases h2 with rfl | rfl
    · exact .inl rfl
    · exact .inr rfl
  · obtain ⟨z', g1, g2, g3⟩ := hm _ _ hz
    rcases g3 with rfl | ⟨g3, _⟩
    · exact h3 _ g1 e
    · rw [g3]; exact hx
  · obtain ⟨z', g1, g2, _⟩ := hm _ _ hz
    rw [g2]; exact h4 _ g1
  · obtain ⟨z', g1, g2, g3⟩ := hm _ _ hz
    rcases g3 with rfl | ⟨_, g3⟩
    · exact h5 _ g1 e
    · exact g3
  · obtain ⟨z', g1, g2, _⟩ := hm _ _ hz
    rw [g2]; exact h6 _ g1

/-- CacheClock -/
def PClock (k : Nat) (c : Ca) (D F : List Int) : Prop :=
  c.pol = 6 ∧ c.size = k ∧ Ok c ∧ c.pages.Nodup ∧ (c.pages.length < k → c.hand = 0) ∧ QInv D F (qOf c.pages c.marks c.hand.toNat) ∧ ∀ y ∈ F, y ∈ c.pages
theorem PClock.any {k : Nat} {c : Ca} {D F : List Int} (h : PClock k c D F) : PClock k c [] [] := by
  obtain ⟨h1, h2, h3, h4, h5, _, _⟩ := h
  exact ⟨h1, h2, h3, h4, h5, ⟨qOf c.pages c.marks c.hand.toNat, [], [], by simp, .inr rfl, by simp, by simp, by simp, by simp⟩, by simp⟩
theorem q_mem {p m : List Int} {h : Nat} {z : Int × Int} (hz : z ∈ qOf p m h) : z.1 ∈ p := by
  unfold qOf at hz
  have : z ∈ p.zip m := (List.mem_append.1 hz).elim List.mem_of_mem_drop List.mem_of_mem_take
  exact (List.of_mem_zip (a := z.1) (b := z.2) this).1
theorem q_all {p m : List Int} (hm : m.length = p.length) {h : Nat} {y : Int} (hy : y ∈ p) : ∃ z ∈ qOf p m h, z.1 = y := by
  obtain ⟨i, hi, rfl⟩ := List.mem_iff_getElem.1 hy
  have : (p[i], m[i]'(by omega)) ∈ p.zip m := by
    rw [← List.getElem_zip (i := i) (h := by rw [List.length_zip]; omega)]
    exact List.getElem_mem _
  rw [← List.take_append_drop h (p.zip m)] at this
  refine ⟨(p[i], m[i]'(by omega)), ?_, rfl⟩
  unfold qOf
  exact List.mem_append.2 ((List.mem_append.1 this).elim .inr .inl)
theorem PClock.hitS {k : Nat} {c : Ca} {D F : List Int} (h : PClock k c D F) (x : Int) (hx : x ∈ c.pages) {D' : List Int} (hD : ∀ y ∈ D, y ∈ D') (hxD : x ∈ D') : PClock k (stepC c x) D' F := by
  obtain ⟨h1, h2, h3, h4, h5, h6, h7⟩ := h
  obtain ⟨g1, g2⟩ := stepC_const c x
  have hok := ok_step h3 x
  have hnod := nod_step h4 x
  have e : stepC c x = { c with marks := c.marks.set (atI c.pages x).toNat 1 } := by
    unfold stepC
    rw [if_pos (hasB_true.2 hx)]
    unfold hitC
    rw [if_neg (by omega), if_neg (by omega), if_pos h1]
  rcases atI_spec c.pages x with ⟨_, i, hi, he⟩ | ⟨hn, _⟩
  · have hix : c.pages[i] = x := by
      have h0 : (atI c.pages x) = (c.pages.idxOf x : Int) := by unfold atI; rw [if_pos hx]
      have : i = c.pages.idxOf x := by omega
      subst this
      exact List.getElem_idxOf hi
    refine ⟨g1.trans h1, g2.trans h2, hok, hnod, ?_, ?_, ?_⟩
    · rw [e]; exact h5
    · rw [e, he, Int.toNat_natCast]
      show QInv D' F (qOf c.pages (c.marks.set i 1) c.hand.toNat)
      rw [q_hit _ h4 hi, hix]
      exact (h6.more hD).hit x hxD
    · rw [e]; exact h7
  · rw [hasB_true.2 hx] at hn; cases hn
theorem PClock.missS {k : Nat} {c : Ca} {D F : List Int} (h : PClock k c D F) (x : Int) (hx : x ∉ c.pages) {D' : List Int} (hD : ∀ y ∈ D, y ∈ D') (hxD : x ∈ D') (hk : D'.length ≤ k) (_hn : D'.Nodup) :
    x ∉ F ∧ PClock k (stepC c x) D' (x :: F) := by
  obtain ⟨h1, h2, h3, h4, h5, h6, h7⟩ := h
  have hxF : x ∉ F := fun e => hx (h7 x e)
  refine ⟨hxF, ?_⟩
  obtain ⟨g1, g2⟩ := stepC_const c x
  have hok := ok_step h3 x
  have hnod := nod_step h4 x
  have hml := h3.marks (.inr h1)
  have hs := h3.size
  have hl := h3.len
  have hh := h3.hand
  have e : stepC c x = clockC c x := by
    unfold stepC
    rw [if_neg (by rw [hasB_true]; exact hx)]
    unfold faultC
    rw [if_pos h1]
  have hQx : ∀ m h, ∀ z ∈ qOf c.pages m h, z.1 ≠ x := fun m h z hz e => hx (e ▸ q_mem hz)
  by_cases hlt : (c.pages.length : Int) < c.size
  · have h0 := h5 (by omega)
    have e2 : clockC c x = { c with pages := c.pages ++ [x], marks := c.marks ++ [1] } := by unfold clockC; rw [if_pos hlt]
    refine ⟨g1.trans h1, g2.trans h2, hok, hnod, ?_, ?_, ?_⟩
    · intro _; rw [e, e2]; exact h0
    · rw [e, e2]
      show QInv D' (x :: F) (qOf (c.pages ++ [x]) (c.marks ++ [1]) c.hand.toNat)
      rw [h0] at h6 ⊢
      have e3 : qOf (c.pages ++ [x]) (c.marks ++ [1]) (0 : Int).toNat = qOf c.pages c.marks (0 : Int).toNat ++ [(x, 1)] := by
        unfold qOf
        simp only [Int.toNat_zero, List.drop_zero, List.take_zero, List.append_nil]
        rw [List.zip_append hml.symm]; rfl
      rw [e3]
      exact (h6.more hD).add x hxD (hQx _ _)
    · rw [e, e2]
      intro y hy
      rcases List.mem_cons.1 hy with rfl | hy
      · simp
      · exact List.mem_append_left _ (h7 y hy)
  · have hfull : c.pages.length = k := by omega
    have hK : c.size.toNat = c.pages.length := by omega
    obtain ⟨t1, t2, _⟩ := turn_props c.size.toNat (by omega) (c.marks.length + 1) c.marks c.hand.toNat (by omega)
    have hq := q_turn (p := c.pages) (by omega) (c.marks.length + 1) c.marks c.hand.toNat hml (by omega)
    rw [← hK] at hq
    have eT : turn c.size.toNat (c.marks.length + 1) c.marks c.hand.toNat = Go.Proofs.YtmfhlojmoehmiaaGreat.turned c := rfl
    rw [eT] at hq t1 t2
    have hstop := turn_stop (qOf c.pages c.marks c.hand.toNat) [] 0 (by simp) (by
      rw [List.append_nil, q_front hml (by omega)]; simp)
    have hql : (qOf c.pages c.marks c.hand.toNat).length = c.marks.length := by
      unfold qOf
      rw [List.length_append, List.length_drop, List.length_take, List.length_zip]
      omega
    rw [hql, Nat.add_zero, List.append_nil, ← hq] at hstop
    obtain ⟨z, Q, hzQ, hz⟩ := hstop
    have h6' : QInv D' F (z :: Q) := by rw [← hzQ, hq]; exact (h6.more hD).turned _
    have hfr := q_front (p := c.pages) (m := (Go.Proofs.YtmfhlojmoehmiaaGreat.turned c).1) (h := (Go.Proofs.YtmfhlojmoehmiaaGreat.turned c).2) (by omega) (by omega)
    have hz1 : z.1 = c.pages[(Go.Proofs.YtmfhlojmoehmiaaGreat.turned c).2]'(by omega) := by
      rw [hzQ] at hfr
      rw [List.cons.injEq] at hfr
      rw [hfr.1]
    have e2 : clockC c x = { c with pages := c.pages.set (Go.Proofs.YtmfhlojmoehmiaaGreat.turned c).2 x, marks := (Go.Proofs.YtmfhlojmoehmiaaGreat.turned c).1.set (Go.Proofs.YtmfhlojmoehmiaaGreat.turned c).2 1, hand := ((Go.Proofs.YtmfhlojmoehmiaaGreat.turned c).2 + 1 : Int) % c.size } := by
      unfold clockC; rw [if_neg hlt]
    have hput := q_put (p := c.pages) (m := (Go.Proofs.YtmfhlojmoehmiaaGreat.turned c).1) (h := (Go.Proofs.YtmfhlojmoehmiaaGreat.turned c).2) (by omega) (by omega) x
    rw [hzQ, List.tail_cons] at hput
    rcases h6'.out hz x hxD (fun w hw => hQx _ _ w (by rw [hzQ]; exact List.mem_cons_of_mem _ hw)) hxF with ⟨k1, k2⟩ | hall
    · refine ⟨g1.trans h1, g2.trans h2, hok, hnod, ?_, ?_, ?_⟩
      · intro h; rw [e, e2] at h; simp only [List.length_set] at h; omega
      · rw [e, e2]
        show QInv D' (x :: F) (qOf (c.pages.set _ x) (List.set _ _ 1) (((Go.Proofs.YtmfhlojmoehmiaaGreat.turned c).2 + 1 : Int) % c.size).toNat)
        have hhand : (((Go.Proofs.YtmfhlojmoehmiaaGreat.turned c).2 + 1 : Int) % c.size).toNat = ((Go.Proofs.YtmfhlojmoehmiaaGreat.turned c).2 + 1) % c.pages.length := by
          have : c.size = (c.pages.length : Int) := by omega
          rw [this]
          have e : ((Go.Proofs.YtmfhlojmoehmiaaGreat.turned c).2 + 1 : Int) % (c.pages.length : Int) = (((((Go.Proofs.YtmfhlojmoehmiaaGreat.turned c).2 + 1) % c.pages.length : Nat)) : Int) := by simp
          rw [e, Int.toNat_natCast]
        rw [hhand, hput]
        exact k2
      · rw [e, e2]
        intro y hy
        show y ∈ c.pages.set _ x
        rcases List.mem_cons.1 hy with rfl | hy
        · exact List.mem_iff_getElem.2 ⟨(Go.Proofs.YtmfhlojmoehmiaaGreat.turned c).2, by rw [List.length_set]; omega, by simp⟩
        · have hyp := h7 y hy
          refine Classical.byContradiction fun hn => ?_
          have := (gone_set h4 (v := (Go.Proofs.YtmfhlojmoehmiaaGreat.turned c).2) (by omega) hx y).1 ⟨hyp, hn⟩
          exact k1 (by rw [hz1, ← this]; exact hy)
    · exfalso
      have hsub : ∀ y ∈ x :: c.pages, y ∈ D' := fun y hy => by
        rcases List.mem_cons.1 hy with rfl | hy
        · exact hxD
        · obtain ⟨w, hw, rfl⟩ := q_all (p := c.pages) (m := (Go.Proofs.YtmfhlojmoehmiaaGreat.turned c).1) (by omega) (h := (Go.Proofs.YtmfhlojmoehmiaaGreat.turned c).2) hy
          rw [hzQ] at hw
          exact hall w hw
      have := nodup_le (List.nodup_cons.2 ⟨hx, h4⟩) hsub
      simp only [List.length_cons] at this
      omega
theorem cons_clock {k : Nat} (hk : 0 < k) : Cons k (PClock k) where
  old c D F x h hx hDk hD hF hFD := ⟨fun hm => h.hitS x hm (fun _ h => h) hx, fun hm => h.missS x hm (fun _ h => h) hx hDk hD⟩
  new c D F x h hx hlt hD hF hFD := ⟨fun hm => h.hitS x hm (fun _ h => List.mem_cons_of_mem _ h) (List.mem_cons_self ..), fun hm => (h.missS x hm (fun _ h => List.mem_cons_of_mem _ h) (List.mem_cons_self ..) (by simp only [List.length_cons]; omega) (List.nodup_cons.2 ⟨hx, hD⟩)).2⟩
  turn c D F x h _ _ _ _ _ := ⟨fun hm => h.any.hitS x hm (by simp) (by simp), fun hm => (h.any.missS x hm (by simp) (by simp) (by simp only [List.length_cons, List.length_nil]; omega) (by simp)).2⟩
end Go.Proofs.YtmfhlojmoehmiaaGreat

/- FnPolicies: the law -/
namespace Go.Proofs.YtmfhlojmoehmiaaGreat
open Go.RowKit

theorem pag_asked {k n p : Int} {l : List Int} (hp : 1 ≤ p ∧ p ≤ 7) : askedB n p k l = pagB k n l := by
  unfold askedB pagB reqB
  have : inB p 1 7 = true := inB_iff.2 hp
  simp [this, Bool.and_assoc]
theorem pag_less {k n h : Int} {l : List Int} (hp : pagB k n l = true) (hh : 1 ≤ h ∧ h ≤ k) : pagB h n l = true := by
  unfold pagB at hp ⊢
  simp only [Bool.and_eq_true, inB_iff] at hp ⊢
  exact ⟨by omega, hp.2⟩
theorem few_le {k n p : Int} {l : List Int} (hp : pagB k n l = true) (h7 : 1 ≤ p ∧ p ≤ 7) : fewN k n l ≤ ((places (newC p k) l).length : Int) := by
  obtain ⟨h1, _⟩ := pagB_facts hp
  obtain ⟨g1, g2⟩ := fewN_ok hp
  have := fewest_run (p := p) (ok_new h7 h1) g2
  rw [places_nf]; omega
theorem few_bound {k n : Int} {l : List Int} (hp : pagB k n l = true) : 0 ≤ fewN k n l ∧ fewN k n l ≤ 60 := by
  have h1 := few_le (p := 1) hp (by omega)
  have h2 := nfC_le l (newC 1 k)
  rw [← places_nf] at h2
  have h3 := (pagB_facts hp).2.2.1
  exact ⟨(fewN_ok hp).1, by omega⟩
theorem pol_bound {p k : Int} (hk : 1 ≤ k) (h : p = 1 ∨ p = 2 ∨ p = 4 ∨ p = 6) (hk6 : k ≤ 6) (l : List Int) : nfC (newC p k) l ≤ k.toNat * cntP k.toNat [] l + k.toNat := by
  have e : ((k.toNat : Nat) : Int) = k := by omega
  have hkt : 0 < k.toNat := by omega
  rcases h with rfl | rfl | rfl | rfl
  · exact (cons_lru hkt).phases hkt ⟨rfl, e.symm, by simp [newC], [], [], rfl, by simp, by simp⟩ l
  · exact (cons_fifo hkt).phases hkt ⟨rfl, e.symm, by simp [newC], [], rfl⟩ l
  · exact (cons_flush hkt).phases hkt ⟨rfl, e.symm, rfl, by simp [newC]⟩ l
  · exact (cons_clock hkt).phases hkt ⟨rfl, e.symm, ok_new (by omega) ⟨hk, hk6⟩, by simp [newC], fun _ => rfl, ⟨[], [], [], rfl, .inl rfl, by simp, by simp, by simp, by simp⟩, by simp⟩ l
theorem pol_ratio {k n p h : Int} {l : List Int} (hp : pagB k n l = true) (h4 : p = 1 ∨ p = 2 ∨ p = 4 ∨ p = 6) (hh : 1 ≤ h ∧ h ≤ k) : (k - h + 1) * (((places (newC p k) l).length : Int) - k) ≤ k * fewN h n l := by
  obtain ⟨h1, _⟩ := pagB_facts hp
  obtain ⟨g1, g2⟩ := fewN_ok (pag_less hp hh)
  have hb := pol_bound h1.1 h4 h1.2 l
  have ho := opt_phases (h := h.toNat) (k := k.toNat) (by omega) (by omega) g2
  have := ratio_of (by omega) ho hb
  rw [← places_nf] at this
  have e1 : ((k.toNat : Nat) : Int) = k := by omega
  have e2 : ((h.toNat : Nat) : Int) = h := by omega
  have e3 : (((fewN h n l).toNat : Nat) : Int) = fewN h n l := by omega
  rw [e1, e2, e3] at this
  exact this

set_option maxRecDepth 100000 in
set_option maxHeartbeats 4000000 in
theorem law_FnPolicies (v : Value) (n : Nat) (w : World) (h : Code w v n) :
    Calls Tryz.prog 10 #[v] w fun e w' => e = .returned (.bool true) ∧ Chg No w w' := by
  obtain ⟨a, cp, rfl⟩ := h.shape
  go_enter Tryz.func10, Tryz.ntmps10
  go_wp2_with fail
  refine (rBig_any _ _ _ h).mono ?_
  rintro e w' ⟨rfl, rfl⟩
  by_cases hbig : (65536 : Int) < (n : Int)
  · go_wp2_with fail
    go_ret
    exact ⟨rfl, Chg.refl No _⟩
  · go_wp2_with fail
    refine (DrawFarthest_any _ _ _ h (by omega)).mono ?_
    rintro e w1 ⟨k, m, rv, l, rfl, ho, hl, k1⟩
    have hr := ho.readNo
    clear ho
    go_wp2_with fail
    refine (implFewest_any k m rv l w1 hr).mono ?_
    rintro e w2 ⟨_, _, rfl, rfl, rfl, k2⟩
    replace hr := hr.keep k2
    have kk2 := k1.keep k2
    go_wp2_with fail
    refine (specFewest_any k m rv l w2 hr).mono ?_
    rintro e w3 ⟨_, _, rfl, rfl, rfl, k3⟩
    replace hr := hr.keep k3
    have kk3 := kk2.keep k3
    clear k1 k2 k3 kk2 h
    obtain ⟨fv, hfv⟩ : ∃ fv, fewV k m l = fv := ⟨_, rfl⟩
    rw [hfv]
    have HFV := Lib.hid hfv
    clear hfv
    cases hp : pagB k m l
    · have HP := Lib.hid hp
      clear hp
      go_wp2_with fail
      go_loopw [10] (fun z wr => ∃ p : Nat, 1 ≤ p ∧ p ≤ 8 ∧ z = .int .i64 (p : Int) ∧ Chg No w3 wr) (fun z _ => 8 - (intOf z).toNat)
      case atStart => exact ⟨1, by omega, by omega, rfl, Chg.refl _ _⟩
      case round =>
        obtain ⟨p, hp1, hp8, rfl, hch⟩ := hrel
        by_cases hp7 : p ≤ 7
        · have hpI : (p : Int) ≤ 7 := by omega
          have hw1 : IntKind.i64.wrap ((p : Int) + 1) = (p : Int) + 1 := IntWalk.i64_in _ (by omega)
          have hask : askedB m (p : Int) k l = false := (pag_asked (by omega)).trans HP.out
          have hnil : (if askedB m (p : Int) k l then places (newC (p : Int) k) l else []) = [] := by rw [hask]; rfl
          have HASK := Lib.hid hask
          have HNIL := Lib.hid hnil
          clear hask hnil
          go_wp2_with fail
          refine (implFaultPlaces_any No m p k rv l _ (hr.keep hch)).mono ?_
          rintro e w4 ⟨v4, _, rfl, rfl, o4, k4⟩
          rw [HNIL.out] at o4
          rw [HASK.out]
          replace hch := hch.keep k4
          obtain ⟨a4, n4, c4, rfl⟩ := o4.shape
          go_wp2_with fail
          refine (specFaultPlaces_any No m p k rv l _ (hr.keep hch) (Bd.no _)).mono ?_
          rintro e w5 ⟨v5, _, rfl, rfl, o5, k5⟩
          rw [HNIL.out] at o5
          rw [HASK.out]
          replace hch := hch.keep k5
          replace o4 := o4.keep k5
          obtain ⟨a5, n5, c5, rfl⟩ := o5.shape
          go_wp2_with fail
          refine (rInts_same No No _ _ [] w5 o4.readNo o5.readNo).mono ?_
          rintro e w6 ⟨_, rfl, rfl, k6⟩
          replace hch := hch.keep k6
          go_wp2_with fail
          go_round
          case rel => exact ⟨p + 1, by omega, by omega, by go_num, hch⟩
          case measure => simp [intOf]; omega
        · have hp8' : p = 8 := by omega
          subst hp8'
          go_wp2_with fail
          go_ret
          exact ⟨rfl, kk3.keep hch⟩
    · obtain ⟨h1, h2, h3, h4⟩ := pagB_facts hp
      have hf0 := few_bound hp
      have hfe : fv = fewN k m l := by rw [← HFV.out]; unfold fewV; rw [hp]; rfl
      rw [← hfe] at hf0
      have HFE := Lib.hid hfe
      have HP := Lib.hid hp
      clear hp hfe h4
      go_wp2_with fail
      go_loopw [10] (fun z wr => ∃ p : Nat, 1 ≤ p ∧ p ≤ 8 ∧ z = .int .i64 (p : Int) ∧ Chg No w3 wr) (fun z _ => 8 - (intOf z).toNat)
      case atStart => exact ⟨1, by omega, by omega, rfl, Chg.refl _ _⟩
      case round =>
        obtain ⟨p, hp1, hp8, rfl, hch⟩ := hrel
        by_cases hp7 : p ≤ 7
        · have hpI : (p : Int) ≤ 7 := by omega
          have hw1 : IntKind.i64.wrap ((p : Int) + 1) = (p : Int) + 1 := IntWalk.i64_in _ (by omega)
          have hask : askedB m (p : Int) k l = true := (pag_asked (by omega)).trans HP.out
          obtain ⟨pl, hpl⟩ : ∃ pl, places (newC (p : Int) k) l = pl := ⟨_, rfl⟩
          have hnil : (if askedB m (p : Int) k l then places (newC (p : Int) k) l else []) = pl := by rw [hask, ← hpl]; rfl
          have hlow := few_le (p := (p : Int)) HP.out (by omega)
          rw [hpl, ← HFE.out] at hlow
          have hlen := nfC_le l (newC (p : Int) k)
          rw [← places_nf, hpl] at hlen
          have HASK := Lib.hid hask
          have HNIL := Lib.hid hnil
          have HPL := Lib.hid hpl
          clear hask hnil hpl
          go_wp2_with fail
          refine (implFaultPlaces_any No m p k rv l _ (hr.keep hch)).mono ?_
          rintro e w4 ⟨v4, _, rfl, rfl, o4, k4⟩
          rw [HNIL.out] at o4
          rw [HASK.out]
          replace hch := hch.keep k4
          obtain ⟨a4, c4, rfl, _⟩ := id o4.view
          go_wp2_with fail
          refine (specFaultPlaces_any No m p k rv l _ (hr.keep hch) (Bd.no _)).mono ?_
          rintro e w5 ⟨v5, _, rfl, rfl, o5, k5⟩
          rw [HNIL.out] at o5
          rw [HASK.out]
          replace hch := hch.keep k5
          replace o4 := o4.keep k5
          obtain ⟨a5, c5, rfl, _⟩ := id o5.view
          go_wp2_with fail
          refine (rInts_same No No _ _ pl w5 o4.readNo o5.readNo).mono ?_
          rintro e w6 ⟨_, rfl, rfl, k6⟩
          replace hch := hch.keep k6
          clear o4 o5 k4 k5 k6
          have hlow2 : ¬ ((pl.length : Int) < fv) := by omega
          by_cases hfour : (p = 1 ∨ p = 2 ∨ p = 4 ∨ p = 6)
          · have hrat := fun h (hh : 1 ≤ h ∧ h ≤ k) => pol_ratio (p := (p : Int)) (h := h) HP.out (by omega) hh
            have hb := fun h (hh : 1 ≤ h ∧ h ≤ k) => few_bound (pag_less HP.out hh)
            have HRAT := Lib.hid hrat
            have HB := Lib.hid hb
            clear hrat hb
            rcases hfour with rfl | rfl | rfl | rfl
            all_goals
              go_wp2_with fail
              go_loopw [15] (fun z wr => ∃ h : Int, 1 ≤ h ∧ h ≤ k + 1 ∧ z = .int .i64 h ∧ Chg No w3 wr) (fun z _ => (k + 1 - intOf z).toNat)
              case atStart => exact ⟨1, by omega, by omega, rfl, hch⟩
              case round =>
                clear hch
                obtain ⟨h, hh1, hh2, rfl, hch⟩ := hrel
                by_cases hle : h ≤ k
                · have hcmp0 := HRAT.out h ⟨hh1, hle⟩
                  rw [HPL.out] at hcmp0
                  have hfb := HB.out h ⟨hh1, hle⟩
                  have hph := pag_less HP.out ⟨hh1, hle⟩
                  obtain ⟨fl, hfl⟩ : ∃ fl, fewN h m l = fl := ⟨_, rfl⟩
                  rw [hfl] at hcmp0 hfb
                  have hfe : fewV h m l = fl := by unfold fewV; rw [hph]; exact hfl
                  have HFL := Lib.hid hfe
                  have HPH := Lib.hid hph
                  clear hfl hfe hph
                  have hb1 : -36 ≤ (k - h + 1) * ((pl.length : Int) - k) ∧ (k - h + 1) * ((pl.length : Int) - k) ≤ 372 := by
                    obtain ⟨c, hc⟩ : ∃ c, k - h + 1 = c := ⟨_, rfl⟩
                    have hcc : c = 1 ∨ c = 2 ∨ c = 3 ∨ c = 4 ∨ c = 5 ∨ c = 6 := by omega
                    rw [hc]
                    rcases hcc with rfl | rfl | rfl | rfl | rfl | rfl <;> omega
                  have hb2 : 0 ≤ k * fl ∧ k * fl ≤ 360 := by
                    have hcc : k = 1 ∨ k = 2 ∨ k = 3 ∨ k = 4 ∨ k = 5 ∨ k = 6 := by omega
                    rcases hcc with rfl | rfl | rfl | rfl | rfl | rfl <;> omega
                  have hwa : IntKind.i64.wrap (k - h) = k - h := IntWalk.i64_in _ (by omega)
                  have hwb : IntKind.i64.wrap (k - h + 1) = k - h + 1 := IntWalk.i64_in _ (by omega)
                  have hwc : IntKind.i64.wrap ((pl.length : Int) - k) = (pl.length : Int) - k := IntWalk.i64_in _ (by omega)
                  have hwd : IntKind.i64.wrap ((k - h + 1) * ((pl.length : Int) - k)) = (k - h + 1) * ((pl.length : Int) - k) := IntWalk.i64_in _ (by omega)
                  have hwe : IntKind.i64.wrap (k * fl) = k * fl := IntWalk.i64_in _ (by omega)
                  have hwf : IntKind.i64.wrap (h + 1) = h + 1 := IntWalk.i64_in _ (by omega)
                  have hcmp : ¬ (k * fl < (k - h + 1) * ((pl.length : Int) - k)) := by omega
                  clear hcmp0 hb1 hb2
                  go_wp2_with fail
                  refine (implFewest_any h m rv l _ (hr.keep hch)).mono ?_
                  rintro e w7 ⟨_, _, rfl, rfl, rfl, k7⟩
                  rw [HFL.out, HPH.out]
                  replace hch := hch.keep k7
                  go_wp2_with fail
                  go_round
                  case rel => exact ⟨h + 1, by omega, by omega, rfl, hch⟩
                  case measure => simp [intOf]; omega
                · clear HRAT HB
                  go_wp2_with fail
                  go_round
                  case rel => first | exact ⟨2, by omega, by omega, rfl, hch⟩ | exact ⟨3, by omega, by omega, rfl, hch⟩ | exact ⟨5, by omega, by omega, rfl, hch⟩ | exact ⟨7, by omega, by omega, rfl, hch⟩
                  case measure => simp [intOf]
          · have hp357 : p = 3 ∨ p = 5 ∨ p = 7 := by omega
            clear hfour
            rcases hp357 with rfl | rfl | rfl
            all_goals
              go_wp2_with fail
              go_round
              case rel => first | exact ⟨4, by omega, by omega, rfl, hch⟩ | exact ⟨6, by omega, by omega, rfl, hch⟩ | exact ⟨8, by omega, by omega, rfl, hch⟩
              case measure => simp [intOf]
        · have hp8' : p = 8 := by omega
          subst hp8'
          go_wp2_with fail
          go_ret
          exact ⟨rfl, kk3.keep hch⟩
end Go.Proofs.YtmfhlojmoehmiaaGreat
