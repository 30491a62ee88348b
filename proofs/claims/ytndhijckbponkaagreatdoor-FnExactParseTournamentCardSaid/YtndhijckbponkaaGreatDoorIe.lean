import Derived.Test.YtndhijckbponkaaGreatDoorIc
import Derived.Test.YtndhijckbponkaaGreatDoorPkX7
/- Plain Lean: the texts of requests, of policies, of a Tournament; what is read of a text. -/
namespace Go.Proofs.YtndhijckbponkaaGreatDoor
open Go.RowKit

def noneT : List UInt8 := [110, 111, 110, 101]
/-- numbers with single spaces between them; the text of requests -/
def spT (l : List Int) : List UInt8 := Lib.join (l.map Lib.itoa) [32]
def reqT : List Int → List UInt8
  | [] => noneT
  | x :: l => spT (x :: l)
theorem reqT_ne {l : List Int} (h : l ≠ []) : reqT l = spT l := by
  cases l with
  | nil => exact absurd rfl h
  | cons x l => rfl
theorem itoa_32 (v : Int) : (32 : UInt8) ∉ Lib.itoa v := itoa_notin v 32 (.inl (by decide))
theorem sp_words (x : Int) (l : List Int) : splitC 32 (spT (x :: l)) = (x :: l).map Lib.itoa := by
  refine split_join 32 (Lib.itoa x) (l.map Lib.itoa) (fun y hy => ?_)
  rw [← List.map_cons] at hy
  obtain ⟨z, _, rfl⟩ := List.mem_map.1 hy
  exact itoa_32 z
theorem mem_join {sep : List UInt8} {b : UInt8} : ∀ {L : List (List UInt8)}, b ∈ Lib.join L sep → (∃ x, x ∈ L ∧ b ∈ x) ∨ b ∈ sep
  | [], h => by simp [Lib.join_nil] at h
  | x :: r, h => by
    rw [Lib.join_cons] at h
    rcases List.mem_append.1 h with h | h
    · exact .inl ⟨x, by simp, h⟩
    · simp only [Lib.joinTail, List.mem_flatten, List.mem_map] at h
      obtain ⟨z, ⟨y, hy, rfl⟩, hz⟩ := h
      rcases List.mem_append.1 hz with hz | hz
      · exact .inr hz
      · exact .inl ⟨y, by simp [hy], hz⟩
theorem sp_mem {l : List Int} {b : UInt8} (h : b ∈ spT l) : b = 32 ∨ ∃ v, b ∈ Lib.itoa v := by
  rcases mem_join h with ⟨x, hx, hb⟩ | h
  · obtain ⟨v, _, rfl⟩ := List.mem_map.1 hx
    exact .inr ⟨v, hb⟩
  · exact .inl (by simpa using h)
theorem none_sp (l : List Int) : spT l ≠ noneT := fun e => by
  have h : (110 : UInt8) ∈ spT l := by rw [e]; decide
  rcases sp_mem h with h | ⟨v, h⟩
  · exact absurd h (by decide)
  · exact itoa_notin v 110 (.inr (.inl (by decide))) h
theorem map_inj {α β : Type} {f : α → β} (hf : ∀ a b, f a = f b → a = b) : ∀ {l m : List α}, l.map f = m.map f → l = m
  | [], [], _ => rfl
  | [], _ :: _, h => by simp at h
  | _ :: _, [], h => by simp at h
  | a :: l, b :: m, h => by
    simp only [List.map_cons, List.cons.injEq] at h
    rw [hf a b h.1, map_inj hf h.2]
theorem reqT_inj {l m : List Int} (h : reqT l = reqT m) : l = m := by
  cases l with
  | nil =>
    cases m with
    | nil => rfl
    | cons y m => exact absurd h.symm (none_sp _)
  | cons x l =>
    cases m with
    | nil => exact absurd h (none_sp _)
    | cons y m =>
      have h1 := sp_words x l
      rw [show spT (x :: l) = spT (y :: m) from h, sp_words] at h1
      exact (map_inj (fun _ _ => itoa_inj) h1).symm
/-- a text that is not the one of no requests: its words -/
theorem req_words {l : List Int} {s : List UInt8} (h : reqT l = s) (hs : s ≠ noneT) : l ≠ [] ∧ splitC 32 s = l.map Lib.itoa := by
  subst h
  cases l with
  | nil => exact absurd rfl hs
  | cons x l => exact ⟨by simp, sp_words x l⟩
theorem req_notin (l : List Int) (b : UInt8) (h : 57 < b.toNat ∧ b.toNat < 97) : b ∉ reqT l := fun hb => by
  cases l with
  | nil =>
    have : b ∈ noneT := hb
    simp only [noneT, List.mem_cons, List.not_mem_nil, or_false] at this
    rcases this with rfl | rfl | rfl | rfl <;> revert h <;> decide
  | cons x l =>
    rcases sp_mem hb with rfl | ⟨v, hv⟩
    · revert h; decide
    · exact itoa_notin v b (.inr (.inl h.1)) hv
theorem spT_snoc (l : List Int) (x : Int) (h : l ≠ []) : spT (l ++ [x]) = spT l ++ [32] ++ Lib.itoa x := by
  unfold spT
  rw [List.map_append, List.map_cons, List.map_nil, join_snoc _ _ _ (by simpa using h)]
theorem words_sp {s : List UInt8} (h : ∀ x, x ∈ splitC 32 s → isNum x = true) : spT ((splitC 32 s).map valS) = s := by
  have e : ((splitC 32 s).map valS).map Lib.itoa = splitC 32 s := by
    rw [List.map_map]
    calc (splitC 32 s).map (Lib.itoa ∘ valS) = (splitC 32 s).map id := List.map_congr_left (fun x hx => itoa_val (h x hx))
      _ = splitC 32 s := by simp
  unfold spT
  rw [e, join_split]

/- THE NUMBERS OF A TEXT OF REQUESTS, if it is one -/
open Classical in
noncomputable def parR (n : Int) (s : List UInt8) : Option (List Int) := if h : ∃ l, reqB n l = true ∧ reqT l = s then some h.choose else none
theorem parR_some {n : Int} {s : List UInt8} {l : List Int} : parR n s = some l ↔ reqB n l = true ∧ reqT l = s := by
  unfold parR
  split
  · rename_i h
    constructor
    · intro e
      have := h.choose_spec
      rw [Option.some.inj e] at this
      exact this
    · intro e
      rw [reqT_inj (h.choose_spec.2.trans e.2.symm)]
  · rename_i h
    constructor
    · intro e; cases e
    · intro e; exact absurd ⟨l, e⟩ h
theorem parR_none {n : Int} {s : List UInt8} (h : ∀ l, reqB n l = true → reqT l = s → False) : parR n s = none := by
  cases e : parR n s with
  | none => rfl
  | some l => exact (h l (parR_some.1 e).1 (parR_some.1 e).2).elim

/-- policies -/
def polL : List (List UInt8) := [[108, 114, 117], [102, 105, 102, 111], [108, 105, 102, 111], [102, 108, 117, 115, 104], [108, 102, 117], [99, 108, 111, 99, 107], [109, 114, 117]]
def polT (p : Int) : List UInt8 := polL.getD (p - 1).toNat []
def polOf (s : List UInt8) : Int := if s ∈ polL then (polL.idxOf s : Int) + 1 else 0
theorem seven {p : Int} (h : 1 ≤ p ∧ p ≤ 7) : p = 1 ∨ p = 2 ∨ p = 3 ∨ p = 4 ∨ p = 5 ∨ p = 6 ∨ p = 7 := by omega
theorem polOf_T {p : Int} (h : 1 ≤ p ∧ p ≤ 7) : polOf (polT p) = p := by
  rcases seven h with rfl | rfl | rfl | rfl | rfl | rfl | rfl <;> decide
theorem polOf_in (s : List UInt8) : polOf s = 0 ∨ (1 ≤ polOf s ∧ polOf s ≤ 7 ∧ polT (polOf s) = s) := by
  by_cases h : s ∈ polL
  · refine .inr ?_
    simp only [polL, List.mem_cons, List.not_mem_nil, or_false] at h
    rcases h with rfl | rfl | rfl | rfl | rfl | rfl | rfl <;> decide
  · exact .inl (by rw [polOf, if_neg h])
theorem polT_notin {p : Int} (h : 1 ≤ p ∧ p ≤ 7) {b : UInt8} (hb : b.toNat < 97) : b ∉ polT p := by
  have key : ∀ x ∈ polL, ∀ y ∈ x, 97 ≤ y.toNat := by decide
  intro hm
  have hin : polT p ∈ polL := by rcases seven h with rfl | rfl | rfl | rfl | rfl | rfl | rfl <;> decide
  have := key _ hin b hm
  omega

/-- THE TEXT OF A TOURNAMENT -/
def plT (x : Pl) : List UInt8 := polT x.ca.pol ++ 47 :: (Lib.itoa x.ca.size ++ 32 :: Lib.itoa x.frm)
def touW (t : To) : List (List UInt8) := Lib.itoa t.items :: reqT t.reqs :: t.ps.map plT
def touT (t : To) : List UInt8 := Lib.join (touW t) [59, 32]
theorem tour_ps {t : To} (ht : tourB t = true) {x : Pl} (hx : x ∈ t.ps) : playB x t.reqs = true := by
  unfold tourB at ht
  simp only [Bool.and_eq_true, List.all_eq_true] at ht
  exact ht.2.2 x hx
theorem play_parts {x : Pl} {l : List Int} (h : playB x l = true) : (0 ≤ x.frm ∧ x.frm ≤ l.length) ∧ (1 ≤ x.ca.pol ∧ x.ca.pol ≤ 7) ∧ 1 ≤ x.ca.size ∧ x.ca.size ≤ 6 := by
  unfold playB at h
  simp only [Bool.and_eq_true, inB_iff] at h
  exact ⟨h.1.1, h.1.2.1, h.1.2.2⟩
theorem tour_req {t : To} (ht : tourB t = true) : (1 ≤ t.items ∧ t.items ≤ 8) ∧ t.reqs.length ≤ 60 ∧ (∀ x ∈ t.reqs, 0 ≤ x ∧ x ≤ 7) ∧ reqB t.items t.reqs = true ∧ t.ps.length ≤ 4 := by
  unfold tourB at ht
  simp only [Bool.and_eq_true, decide_eq_true_eq] at ht
  have h := ht.1
  have h' := h
  unfold reqB at h
  simp only [Bool.and_eq_true, decide_eq_true_eq, inB_iff] at h
  refine ⟨h.1.1, h.1.2, fun x hx => ?_, h', ht.2.1⟩
  have := h.2
  unfold belowB at this
  rw [List.all_eq_true] at this
  have := inB_iff.1 (this x hx)
  omega
theorem plT_notin {x : Pl} {l : List Int} (h : playB x l = true) : (59 : UInt8) ∉ plT x := fun hm => by
  obtain ⟨_, hp, _⟩ := play_parts h
  unfold plT at hm
  rcases List.mem_append.1 hm with hm | hm
  · exact polT_notin hp (by decide) hm
  · rcases List.mem_cons.1 hm with hm | hm
    · exact absurd hm (by decide)
    · rcases List.mem_append.1 hm with hm | hm
      · exact itoa_notin _ 59 (.inr (.inl (by decide))) hm
      · rcases List.mem_cons.1 hm with hm | hm
        · exact absurd hm (by decide)
        · exact itoa_notin _ 59 (.inr (.inl (by decide))) hm
theorem touW_notin {t : To} (ht : tourB t = true) : ∀ y, y ∈ touW t → (59 : UInt8) ∉ y := fun y hy => by
  unfold touW at hy
  rcases List.mem_cons.1 hy with rfl | hy
  · exact itoa_notin _ 59 (.inr (.inl (by decide)))
  · rcases List.mem_cons.1 hy with rfl | hy
    · exact req_notin _ 59 (by decide)
    · obtain ⟨x, hx, rfl⟩ := List.mem_map.1 hy
      exact plT_notin (tour_ps ht hx)
theorem tou_split2 {t : To} (ht : tourB t = true) : Lib.split (touT t) [59, 32] = touW t := split2_join 59 32 _ _ (touW_notin ht)
theorem tou_split {t : To} (ht : tourB t = true) : splitC 59 (touT t) = Lib.itoa t.items :: (32 :: reqT t.reqs) :: t.ps.map (fun x => 32 :: plT x) := by
  have := split_join2 59 32 (by decide) _ _ (touW_notin ht)
  show splitC 59 (Lib.join (Lib.itoa t.items :: (reqT t.reqs :: t.ps.map plT)) [59, 32]) = _
  rw [this]
  simp
theorem plT_cut {x : Pl} {l : List Int} (h : playB x l = true) : preB 47 (plT x) = polT x.ca.pol ∧ postB 47 (plT x) = Lib.itoa x.ca.size ++ 32 :: Lib.itoa x.frm :=
  pre_join 47 _ _ (polT_notin (play_parts h).2.1 (by decide))
theorem plT_cut2 (x : Pl) : preB 32 (Lib.itoa x.ca.size ++ 32 :: Lib.itoa x.frm) = Lib.itoa x.ca.size ∧ postB 32 (Lib.itoa x.ca.size ++ 32 :: Lib.itoa x.frm) = Lib.itoa x.frm :=
  pre_join 32 _ _ (itoa_32 _)
/-- as the program cuts it: at the space first -/
theorem plT_cut3 {x : Pl} {l : List Int} (h : playB x l = true) : preB 32 (plT x) = polT x.ca.pol ++ 47 :: Lib.itoa x.ca.size ∧ postB 32 (plT x) = Lib.itoa x.frm := by
  have hn : (32 : UInt8) ∉ polT x.ca.pol ++ 47 :: Lib.itoa x.ca.size := fun hm => by
    rcases List.mem_append.1 hm with hm | hm
    · exact polT_notin (play_parts h).2.1 (by decide) hm
    · rcases List.mem_cons.1 hm with hm | hm
      · exact absurd hm (by decide)
      · exact itoa_32 _ hm
  have e : plT x = (polT x.ca.pol ++ 47 :: Lib.itoa x.ca.size) ++ 32 :: Lib.itoa x.frm := by simp [plT]
  rw [e]
  exact pre_join 32 _ _ hn
theorem plT_cut4 {x : Pl} {l : List Int} (h : playB x l = true) : preB 47 (polT x.ca.pol ++ 47 :: Lib.itoa x.ca.size) = polT x.ca.pol ∧ postB 47 (polT x.ca.pol ++ 47 :: Lib.itoa x.ca.size) = Lib.itoa x.ca.size :=
  pre_join 47 _ _ (polT_notin (play_parts h).2.1 (by decide))
/-- what a player's text says, and what it was made of -/
theorem plT_inj {x y : Pl} {l : List Int} (hx : playB x l = true) (hy : playB y l = true) (h : plT x = plT y) : x = y := by
  have h1 := plT_cut hx
  have h2 := plT_cut hy
  rw [h] at h1
  have hp : polT x.ca.pol = polT y.ca.pol := h1.1.symm.trans h2.1
  have hq := h1.2.symm.trans h2.2
  have h3 := plT_cut2 x
  have h4 := plT_cut2 y
  rw [hq] at h3
  have hs := itoa_inj (h3.1.symm.trans h4.1)
  have hf := itoa_inj (h3.2.symm.trans h4.2)
  have hpp : x.ca.pol = y.ca.pol := by rw [← polOf_T (play_parts hx).2.1, ← polOf_T (play_parts hy).2.1, hp]
  have e1 := want_self hx
  have e2 := want_self hy
  rw [← e1, ← e2]
  unfold wantP
  rw [hpp, hs, hf]
theorem touT_inj {t u : To} (ht : tourB t = true) (hu : tourB u = true) (h : touT t = touT u) : t = u := by
  have hw : touW t = touW u := by rw [← tou_split2 ht, ← tou_split2 hu, h]
  unfold touW at hw
  simp only [List.cons.injEq] at hw
  obtain ⟨h1, h2, h3⟩ := hw
  have e1 := itoa_inj h1
  have e2 := reqT_inj h2
  obtain ⟨i, ps, rs⟩ := t
  obtain ⟨i', ps', rs'⟩ := u
  simp only at e1 e2 h3
  subst e1; subst e2
  have hps : ∀ (a b : List Pl), (∀ x ∈ a, playB x rs = true) → (∀ x ∈ b, playB x rs = true) → a.map plT = b.map plT → a = b := by
    intro a
    induction a with
    | nil => intro b _ _ h; cases b with
      | nil => rfl
      | cons y b => simp at h
    | cons x a ih => intro b ha hb h; cases b with
      | nil => simp at h
      | cons y b =>
        simp only [List.map_cons, List.cons.injEq] at h
        rw [plT_inj (ha x (by simp)) (hb y (by simp)) h.1, ih b (fun z hz => ha z (by simp [hz])) (fun z hz => hb z (by simp [hz])) h.2]
  rw [hps ps ps' (fun x hx => tour_ps ht hx) (fun x hx => tour_ps hu hx) h3]

/- THE TOURNAMENT OF A TEXT, if it is one -/
open Classical in
noncomputable def parT (s : List UInt8) : Option To := if h : ∃ t, tourB t = true ∧ touT t = s then some h.choose else none
theorem parT_some {s : List UInt8} {t : To} : parT s = some t ↔ tourB t = true ∧ touT t = s := by
  unfold parT
  split
  · rename_i h
    constructor
    · intro e
      have := h.choose_spec
      rw [Option.some.inj e] at this
      exact this
    · intro e
      rw [touT_inj h.choose_spec.1 e.1 (h.choose_spec.2.trans e.2.symm)]
  · rename_i h
    constructor
    · intro e; cases e
    · intro e; exact absurd ⟨t, e⟩ h
/-- a player's entry, as the reference reads it: policy, size, place -/
def entN (s : List UInt8) : Int × Int × Int := (polOf (preB 47 s), valS (preB 32 (postB 47 s)), valS (postB 32 (postB 47 s)))
def entB (s : List UInt8) (n : Nat) : Bool := numB (preB 32 (postB 47 s)) && numB (postB 32 (postB 47 s)) && (inB (polOf (preB 47 s)) 1 7 && inB (valS (preB 32 (postB 47 s))) 1 6) && inB (valS (postB 32 (postB 47 s))) 0 n
theorem ent_plT {x : Pl} {l : List Int} (h : playB x l = true) (hl : l.length ≤ 60) : entN (plT x) = (x.ca.pol, x.ca.size, x.frm) ∧ entB (plT x) l.length = true := by
  obtain ⟨h1, h2, h3⟩ := play_parts h
  have c := plT_cut h
  have c2 := plT_cut2 x
  have n1 := numB_itoa (v := x.ca.size) (by omega)
  have n2 := numB_itoa (v := x.frm) (by omega)
  unfold entN entB
  rw [c.1, c.2, c2.1, c2.2, polOf_T h2, n1.1, n1.2, n2.1, n2.2, inB_iff.2 h1, inB_iff.2 h2, inB_iff.2 h3]
  exact ⟨rfl, rfl⟩
end Go.Proofs.YtndhijckbponkaaGreatDoor
