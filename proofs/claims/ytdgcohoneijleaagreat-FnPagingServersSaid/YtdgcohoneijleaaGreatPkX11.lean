import Derived.Test.YtdgcohoneijleaaGreatGo
import Derived.Test.YtdgcohoneijleaaGreatGe
import Derived.Test.YtdgcohoneijleaaGreatOw
import Derived.Test.YtdgcohoneijleaaGreatPkX3
import Derived.Test.YtdgcohoneijleaaGreatO
import Derived.Test.YtdgcohoneijleaaGreatBa
import Derived.Test.YtdgcohoneijleaaGreatPkX6
import Derived.Test.YtdgcohoneijleaaGreatUe
import Derived.Test.YtdgcohoneijleaaGreatPkX10
import Derived.Test.YtdgcohoneijleaaGreatPkX1
import Derived.Test.YtdgcohoneijleaaGreatPkX4
import Derived.Test.YtdgcohoneijleaaGreatPkX2
/- phases, and what leaves a cache: plain -/
namespace Go.Proofs.YtdgcohoneijleaaGreat

theorem hasB_true {l : List Int} {x : Int} : hasB l x = true ↔ x ∈ l := by simp [hasB]
theorem victim_in {c : Ca} (h : Ok c) (hf : ¬ (c.pages.length : Int) < c.size) : victim c < c.pages.length := by
  have hs := h.size
  have hl := h.len
  by_cases h6 : c.pol = 6
  · have hh := h.hand
    obtain ⟨_, t2, _⟩ := turn_props c.size.toNat (by omega) (c.marks.length + 1) c.marks c.hand.toNat (by omega)
    unfold victim
    rw [if_neg (by omega), if_neg (by omega), if_pos h6]
    unfold turned
    omega
  · exact victim_lt h (by omega) h6
end Go.Proofs.YtdgcohoneijleaaGreat

/- VictimsOf, both sides -/
namespace Go.Proofs.YtdgcohoneijleaaGreat
open Go.RowKit

theorem putL_old {l : List Int} {n : Int} (h : Up l) (hn : n ∈ l) : putL l n = l := by
  induction l with
  | nil => cases hn
  | cons a l ih =>
    unfold Up at h
    rw [List.pairwise_cons] at h
    unfold putL
    rcases List.mem_cons.1 hn with rfl | hn
    · simp
    · have := h.1 n hn
      rw [if_pos this, ih h.2 hn]
theorem foldl_put_nod : ∀ (l acc : List Int), Up acc → (l.foldl putL acc).length = acc.length + l.length → l.Nodup ∧ ∀ x ∈ l, x ∉ acc
  | [], acc, _, _ => ⟨List.nodup_nil, fun x h => by cases h⟩
  | a :: l, acc, hu, h => by
    rw [List.foldl_cons, List.length_cons] at h
    have h1 : ∀ (l acc : List Int), (l.foldl putL acc).length ≤ acc.length + l.length := by
      intro l
      induction l with
      | nil => simp
      | cons a l ih => intro acc; have := ih (putL acc a); have := putL_len acc a; simp only [List.foldl_cons, List.length_cons]; omega
    have h2 := h1 l (putL acc a)
    have h3 := putL_len acc a
    obtain ⟨g1, g2⟩ := foldl_put_nod l (putL acc a) (putL_up a hu) (by omega)
    have ha : a ∉ acc := fun hm => by have := congrArg List.length (putL_old hu hm); omega
    refine ⟨List.nodup_cons.2 ⟨fun hm => g2 a hm (putL_mem.2 (.inr rfl)), g1⟩, fun x hx => ?_⟩
    rcases List.mem_cons.1 hx with rfl | hx
    · exact ha
    · exact fun hm => g2 x hx (putL_mem.2 (.inl hm))
theorem goodC_nod {n : Int} {c : Ca} (h : goodC n c = true) : c.pages.Nodup := by
  simp only [goodC, Bool.and_eq_true, decide_eq_true_eq] at h
  exact (foldl_put_nod c.pages [] List.Pairwise.nil (by have := h.1.1.2; unfold diffL at this; simpa using this)).1
/-- a Cache by value, laid into a block -/
theorem RCO.mc {base : Nat} {w W : World} {p k hd : Int} {pv mv : Value} {ps ms : List Int} {b : Nat} (h : RCO base w (.agg #[.int .i64 p, .int .i64 k, pv, mv, .int .i64 hd]) ⟨p, k, ps, ms, hd⟩) (hc : Chg No w W)
    (hb : Box W b (.int .i64 p) (.int .i64 k) pv mv (.int .i64 hd)) (hl : w.heap.size ≤ b) : MC base W b ⟨p, k, ps, ms, hd⟩ pv mv := by
  obtain ⟨pv', mv', e, h1, h2, h3⟩ := h
  simp only [Value.agg.injEq, Array.mk.injEq, List.cons.injEq, and_true, true_and] at e
  obtain ⟨rfl, rfl⟩ := e
  exact ⟨hb, h1.keep hc, h2.keep hc, h3, fun hq => by have := (h1.lt _ hq).2; omega, fun hq => by have := (h2.lt _ hq).2; omega⟩
end Go.Proofs.YtdgcohoneijleaaGreat

/- a step of a valid cache: plain -/
namespace Go.Proofs.YtdgcohoneijleaaGreat

theorem putL_new {l : List Int} {n : Int} (hn : n ∉ l) : (putL l n).length = l.length + 1 := by
  induction l with
  | nil => rfl
  | cons a l ih =>
    rw [List.mem_cons, not_or] at hn
    unfold putL
    split
    · rw [List.length_cons, ih hn.2, List.length_cons]
    · rw [if_neg (fun e => hn.1 e.symm)]; rfl
theorem foldl_put_new : ∀ (l acc : List Int), l.Nodup → (∀ x ∈ l, x ∉ acc) → (l.foldl putL acc).length = acc.length + l.length
  | [], acc, _, _ => rfl
  | a :: l, acc, hn, h => by
    rw [List.nodup_cons] at hn
    rw [List.foldl_cons, foldl_put_new l (putL acc a) hn.2 (fun x hx hm => by
      rcases putL_mem.1 hm with hm | rfl
      · exact h x (List.mem_cons_of_mem _ hx) hm
      · exact hn.1 hx), putL_new (h a (List.mem_cons_self ..)), List.length_cons]
    omega
theorem diffL_nod {l : List Int} (h : l.Nodup) : (diffL l).length = l.length := by
  have := foldl_put_new l [] h (fun x _ hm => by cases hm)
  simpa [diffL] using this
theorem goodC_iff (n : Int) (c : Ca) : goodC n c = true ↔ (1 ≤ n ∧ n ≤ 8) ∧ (1 ≤ c.pol ∧ c.pol ≤ 7) ∧ (1 ≤ c.size ∧ c.size ≤ 6) ∧ (c.pages.length : Int) ≤ c.size ∧ (∀ a ∈ c.pages, 0 ≤ a ∧ a ≤ n - 1) ∧ c.pages.Nodup ∧ marksB c = true ∧ handB c = true := by
  constructor
  · intro h
    have hn := goodC_nod h
    unfold goodC at h
    simp only [Bool.and_eq_true, inB_iff, decide_eq_true_eq, belowB, List.all_eq_true] at h
    obtain ⟨⟨⟨⟨⟨⟨⟨h1, h2⟩, h3⟩, h4⟩, h5⟩, h6⟩, h7⟩, h8⟩ := h
    exact ⟨h1, h2, h3, h4, h5, hn, h7, h8⟩
  · rintro ⟨h1, h2, h3, h4, h5, h6, h7, h8⟩
    unfold goodC
    simp only [Bool.and_eq_true, inB_iff, decide_eq_true_eq, belowB, List.all_eq_true]
    exact ⟨⟨⟨⟨⟨⟨⟨h1, h2⟩, h3⟩, h4⟩, h5⟩, diffL_nod h6⟩, h7⟩, h8⟩
/-- what a step holds: the item, and nothing but it and what was held -/
theorem step_mem {c : Ca} (x : Int) (hok : Ok c) : (∀ a ∈ (stepC c x).pages, a ∈ c.pages ∨ a = x) ∧ x ∈ (stepC c x).pages := by
  have hs := hok.size
  have hl := hok.len
  unfold stepC
  cases hh : hasB c.pages x
  · rw [if_neg (by simp)]
    unfold faultC
    by_cases h6 : c.pol = 6
    · rw [if_pos h6]
      unfold clockC
      by_cases hf : (c.pages.length : Int) < c.size
      · rw [if_pos hf]
        simp
      · rw [if_neg hf]
        have hv : (turned c).2 < c.pages.length := by
          have := victim_in hok hf
          unfold victim at this
          rwa [if_neg (by omega), if_neg (by omega), if_pos h6] at this
        refine ⟨fun a ha => ?_, ?_⟩
        · rcases List.mem_or_eq_of_mem_set ha with ha | rfl
          · exact .inl ha
          · exact .inr rfl
        · exact List.mem_iff_getElem.2 ⟨(turned c).2, by simpa using hv, by simp⟩
    · rw [if_neg h6]
      refine ⟨fun a ha => ?_, List.mem_cons_self ..⟩
      rcases List.mem_cons.1 ha with rfl | ha
      · exact .inr rfl
      · left
        split at ha
        · split at ha
          · cases ha
          · exact List.mem_of_mem_eraseIdx ha
        · exact ha
  · rw [if_pos rfl]
    rcases atI_spec c.pages x with ⟨_, k, hk, he⟩ | ⟨hn, _⟩
    · have hx : x ∈ c.pages := by simpa [hasB] using hh
      have hkx : c.pages.getD k 0 = x := by
        have e2 : atI c.pages x = (c.pages.idxOf x : Int) := by rw [atI, if_pos hx]
        have e3 : k = c.pages.idxOf x := by omega
        subst e3
        rw [List.getD_eq_getElem?_getD, List.getElem?_eq_getElem hk]
        simp
      rw [he, Int.toNat_natCast]
      unfold hitC
      split
      · refine ⟨fun a ha => ?_, by rw [hkx]; exact List.mem_cons_self ..⟩
        rcases List.mem_cons.1 ha with rfl | ha
        · exact .inr hkx
        · exact .inl (List.mem_of_mem_eraseIdx ha)
      · split
        · exact ⟨fun a ha => .inl ha, hx⟩
        · split <;> exact ⟨fun a ha => .inl ha, hx⟩
    · rw [hn] at hh; cases hh
end Go.Proofs.YtdgcohoneijleaaGreat

/- CacheLRU and CacheMRU: what a smaller cache holds, a greater one holds: plain -/
namespace Go.Proofs.YtdgcohoneijleaaGreat

theorem stepC_const (c : Ca) (x : Int) : (stepC c x).pol = c.pol ∧ (stepC c x).size = c.size := by
  unfold stepC
  split
  · unfold hitC
    split
    · exact ⟨rfl, rfl⟩
    · split
      · exact ⟨rfl, rfl⟩
      · split <;> exact ⟨rfl, rfl⟩
  · unfold faultC
    split
    · unfold clockC
      split <;> exact ⟨rfl, rfl⟩
    · exact ⟨rfl, rfl⟩

end Go.Proofs.YtdgcohoneijleaaGreat

/- what each cache costs against the fewest faults: phases (plain) -/
namespace Go.Proofs.YtdgcohoneijleaaGreat

/-- a cache's own run is one of those that the fewest faults are asked of -/
theorem run_sim (l : List Int) : ∀ c : Ca, Ok c → Sim c.size.toNat l (· ∈ c.pages) (nfC c l) := by
  induction l with
  | nil => intro c _; rfl
  | cons x l ih =>
    intro c hok
    have hok' := ok_step hok x
    obtain ⟨h1, h2⟩ := step_mem x hok
    have hsz := (stepC_const c x).2
    have h3 := hok'.len
    have h4 := hok'.size
    have ih' := ih (stepC c x) hok'
    rw [hsz] at ih'
    refine ⟨(· ∈ (stepC c x).pages), h2, h1, ⟨(stepC c x).pages, by rw [← hsz]; omega, fun y hy => hy⟩, _, ih', ?_⟩
    by_cases hx : x ∈ c.pages
    · exact .inl ⟨hx, by show (if hasB c.pages x then 0 else 1) + _ = _; rw [if_pos (hasB_true.2 hx)]; omega⟩
    · exact .inr ⟨hx, by show (if hasB c.pages x then 0 else 1) + _ = _; rw [if_neg (by rw [hasB_true]; exact hx)]; omega⟩
theorem fewest_run {p k : Int} (hok : Ok (newC p k)) {l : List Int} {f : Nat} (h : Fewest k.toNat l f) : f ≤ nfC (newC p k) l := by
  refine h.2 _ ?_
  have := run_sim l (newC p k) hok
  have e : (fun _ : Int => False) = (· ∈ (newC p k).pages) := by funext x; simp [newC]
  rw [e]; exact this

end Go.Proofs.YtdgcohoneijleaaGreat

/- FnPolicies: the law -/
namespace Go.Proofs.YtdgcohoneijleaaGreat
open Go.RowKit

theorem pag_asked {k n p : Int} {l : List Int} (hp : 1 ≤ p ∧ p ≤ 7) : askedB n p k l = pagB k n l := by
  unfold askedB pagB reqB
  have : inB p 1 7 = true := inB_iff.2 hp
  simp [this, Bool.and_assoc]
theorem few_le {k n p : Int} {l : List Int} (hp : pagB k n l = true) (h7 : 1 ≤ p ∧ p ≤ 7) : fewN k n l ≤ ((places (newC p k) l).length : Int) := by
  obtain ⟨h1, _⟩ := pagB_facts hp
  obtain ⟨g1, g2⟩ := fewN_ok hp
  have := fewest_run (p := p) (ok_new h7 h1) g2
  rw [places_nf]; omega
theorem few_bound {k n : Int} {l : List Int} (hp : pagB k n l = true) : 0 ≤ fewN k n l ∧ fewN k n l ≤ 60 := by
  have h1 := few_le (p := 1) hp (by omega)
  have h2 := nfC_le l (newC 1 k)
  rw [← places_nf] at h2
  have h3 := (pagB_facts hp).2.2.1
  exact ⟨(fewN_ok hp).1, by omega⟩
end Go.Proofs.YtdgcohoneijleaaGreat

/- StepCache, both sides -/
namespace Go.Proofs.YtdgcohoneijleaaGreat
open Go.RowKit

theorem RCO.put5 {base : Nat} {w : World} {v : Value} {c : Ca} (h : RCO base w v c) {b : Nat} (hb : b < base) (x0 x1 x2 x3 x4 : Value) :
    RCO base (((((w.setCell ⟨b, 0, none⟩ x0).setCell ⟨b, 1, none⟩ x1).setCell ⟨b, 2, none⟩ x2).setCell ⟨b, 3, none⟩ x3).setCell ⟨b, 4, none⟩ x4) v c :=
  h.step ((Chg.refl (fun k => k = b) w).put5 (fun _ => rfl) x0 x1 x2 x3 x4) (fun q hq e => by have := (h.lt q hq).1; omega)
theorem Ret2.tup {φ : Value → Value → World → Prop} {a b : Value} {w : World} (h : φ a b w) : Ret2 φ (.returned (.tuple #[a, b])) w := ⟨a, b, rfl, h⟩
end Go.Proofs.YtdgcohoneijleaaGreat

/- caches drawn for steps and runs; IsHit -/
namespace Go.Proofs.YtdgcohoneijleaaGreat
open Go.RowKit

theorem RCO.shape {base : Nat} {w : World} {v : Value} {c : Ca} (h : RCO base w v c) : ∃ pa pn pc ma mn mc, v = .agg #[.int .i64 c.pol, .int .i64 c.size, .slice pa pn pc, .slice ma mn mc, .int .i64 c.hand] := by
  obtain ⟨pv, mv, rfl, hp, hm, _⟩ := h
  obtain ⟨pa, pn, pc, rfl⟩ := hp.shape
  obtain ⟨ma, mn, mc, rfl⟩ := hm.shape
  exact ⟨pa, pn, pc, ma, mn, mc, rfl⟩
end Go.Proofs.YtdgcohoneijleaaGreat
