import Derived.Test.YtmfhlojmoehmiaaGreatBa
import Derived.Test.YtmfhlojmoehmiaaGreatI
import Derived.Test.YtmfhlojmoehmiaaGreatGo
import Derived.Test.YtmfhlojmoehmiaaGreatLr
import Derived.Test.YtmfhlojmoehmiaaGreatBh
import Derived.Test.YtmfhlojmoehmiaaGreatSs
import Derived.Test.YtmfhlojmoehmiaaGreatH
import Derived.Test.YtmfhlojmoehmiaaGreatTm
import Derived.Test.YtmfhlojmoehmiaaGreatFr
import Derived.Test.YtmfhlojmoehmiaaGreatT
import Derived.Test.YtmfhlojmoehmiaaGreatBt
import Derived.Test.YtmfhlojmoehmiaaGreatR
import Derived.Test.YtmfhlojmoehmiaaGreatS
import Derived.Test.YtmfhlojmoehmiaaGreatTi
/- the farthest next use: the program's plan -/
namespace Go.Proofs.YtmfhlojmoehmiaaGreat
open Go.RowKit

/-- what the first j pages of a cache say of the farthest one -/
structure FarTo (l c : List Int) (j : Nat) (b f : Int) : Prop where
  all : ∀ q, q ∈ c.take j → q ∈ l ∧ (l.idxOf q : Int) ≤ f
  some : 0 < j → b ∈ c ∧ b ∈ l ∧ f = (l.idxOf b : Int)
  none : j = 0 → f = -1
theorem FarTo.zero (l c : List Int) : FarTo l c 0 (-1) (-1) := ⟨fun q hq => by simp at hq, fun h => absurd h (Nat.lt_irrefl _), fun _ => rfl⟩
theorem atI_in {l : List Int} {x : Int} (h : x ∈ l) : atI l x = (l.idxOf x : Int) := by unfold atI; rw [if_pos h]
theorem atI_ge {l : List Int} {x : Int} (h : 0 ≤ atI l x) : x ∈ l := by
  refine Classical.byContradiction fun e => ?_
  unfold atI at h
  rw [if_neg e] at h
  omega
theorem FarTo.hit {l c : List Int} {j : Nat} {b f : Int} (_h : FarTo l c j b f) (hj : j < c.length) (hn : c[j] ∉ l) : IsFar l c c[j] := by
  refine ⟨List.getElem_mem hj, fun q _ => ?_⟩
  rw [List.idxOf_eq_length hn]
  exact List.idxOf_le_length
theorem mem_take_snoc {l : List Int} {j : Nat} (hj : j < l.length) {q : Int} (h : q ∈ l.take (j + 1)) : q ∈ l.take j ∨ q = l[j] := by
  rw [List.take_succ_eq_append_getElem hj, List.mem_append, List.mem_singleton] at h; exact h
theorem FarTo.up {l c : List Int} {j : Nat} {b f : Int} (h : FarTo l c j b f) (hj : j < c.length) (hm : c[j] ∈ l) (hf : f < atI l c[j]) : FarTo l c (j + 1) c[j] (atI l c[j]) := by
  rw [atI_in hm] at hf ⊢
  refine ⟨fun q hq => ?_, fun _ => ⟨List.getElem_mem hj, hm, rfl⟩, fun e => by omega⟩
  rcases mem_take_snoc hj hq with hq | rfl
  · have := h.all q hq; exact ⟨this.1, by omega⟩
  · exact ⟨hm, Int.le_refl _⟩
theorem FarTo.stay {l c : List Int} {j : Nat} {b f : Int} (h : FarTo l c j b f) (hj : j < c.length) (hm : c[j] ∈ l) (hf : ¬ f < atI l c[j]) : FarTo l c (j + 1) b f := by
  rw [atI_in hm] at hf
  refine ⟨fun q hq => ?_, fun _ => ?_, fun e => by omega⟩
  · rcases mem_take_snoc hj hq with hq | rfl
    · exact h.all q hq
    · exact ⟨hm, by omega⟩
  · rcases Nat.eq_zero_or_pos j with rfl | hp
    · have := h.none rfl; omega
    · exact h.some hp
theorem FarTo.done {l c : List Int} {b f : Int} (h : FarTo l c c.length b f) (hc : 0 < c.length) : IsFar l c b := by
  obtain ⟨h1, h2, h3⟩ := h.some hc
  refine ⟨h1, fun q hq => ?_⟩
  have := (h.all q (by rw [List.take_length]; exact hq)).2
  omega
theorem IsFar.same {l c c' : List Int} {p : Int} (h : IsFar l c p) (e : ∀ x, x ∈ c ↔ x ∈ c') : IsFar l c' p := ⟨(e p).1 h.1, fun q hq => h.2 q ((e q).2 hq)⟩
theorem FarTo.fge {l c : List Int} {j : Nat} {b f : Int} (h : FarTo l c j b f) : -1 ≤ f ∧ f ≤ l.length := by
  rcases Nat.eq_zero_or_pos j with rfl | hp
  · have := h.none rfl; omega
  · obtain ⟨_, _, h3⟩ := h.some hp
    have := List.idxOf_le_length (l := l) (a := b)
    omega

set_option maxRecDepth 100000 in
set_option maxHeartbeats 1000000 in
theorem farthest_any (A B : Nat → Prop) (i : Nat) (vr vc : Value) (rq c : List Int) (w : World) (hr : RI A w vr rq) (hc : RI B w vc c) (hi : i < rq.length) (hne : 0 < c.length) :
    Calls Tryz.prog 201 #[.int .i64 (i : Int), vr, vc] w fun e w' => ∃ p, e = .returned (.int .i64 p) ∧ IsFar (rq.drop (i + 1)) c p ∧ w = w' := by
  have hlr := hr.len
  have hlc := hc.len
  obtain ⟨ra, rcap, rfl, _⟩ := id hr
  have hwi : IntKind.i64.wrap ((i : Int) + 1) = (i : Int) + 1 := IntWalk.i64_in _ (by omega)
  obtain ⟨xs, hx, hrx⟩ := hr.from (i + 1) ((i : Int) + 1) (by omega) (by omega)
  obtain ⟨L, hL⟩ : ∃ L, rq.drop (i + 1) = L := ⟨_, rfl⟩
  rw [hL] at hrx ⊢
  obtain ⟨xa, xn, xc, rfl⟩ := hrx.shape
  obtain ⟨ca, cap, rfl, hcap, hmax, hlen, _, hcc⟩ := id hc
  clear hL hr
  go_enter Tryz.func201, Tryz.ntmps201
  go_wp2_with fail
  go_loop [7, 8, 14] (fun b f z => ∃ (j : Nat) (bi fi : Int), j ≤ c.length ∧ b = .int .i64 bi ∧ f = .int .i64 fi ∧ z = .int .i64 (j : Int) ∧ Hid (FarTo L c j bi fi)) (fun _ _ z => c.length - (intOf z).toNat)
  case atStart => exact ⟨0, -1, -1, Nat.zero_le _, rfl, rfl, rfl, Lib.hid (FarTo.zero L c)⟩
  case round =>
    obtain ⟨j, bi, fi, hj, rfl, rfl, rfl, HF⟩ := hrel
    by_cases hlt : j < c.length
    · obtain ⟨b, off, rfl, _, _, hcell⟩ := hcc (by intro e; simp [e] at hlt)
      have hcl := hcell j hlt
      have hhit := Lib.hid (HF.out.hit hlt)
      have hup := Lib.hid (HF.out.up hlt)
      have hst := Lib.hid (fun hm (hf : atI L c[j] ≤ fi) => HF.out.stay hlt hm (by omega))
      have hge := HF.out.fge
      obtain ⟨y, hy⟩ : ∃ y, c[j] = y := ⟨_, rfl⟩
      have hgy : c.getD j 0 = y := by rw [List.getD_eq_getElem?_getD, List.getElem?_eq_getElem hlt]; exact hy
      rw [hgy] at hcl
      rw [hy] at hhit hup hst
      have hj0 : (0 : Int) ≤ (j : Int) := Int.natCast_nonneg _
      have hj1 : (j : Int) < (c.length : Int) := by omega
      have hw1 : IntKind.i64.wrap ((j : Int) + 1) = (j : Int) + 1 := IntWalk.i64_in _ (by omega)
      clear hcell hcc hgy hy
      go_wp2_with (go_at_call 171; refine (Index_any A _ L y _ hrx).mono ?_; rintro e w' ⟨rfl, rfl⟩)
      · go_ret
        have h : atI L y < 0 := by assumption
        exact ⟨_, rfl, hhit.out (fun hm => by rw [atI_in hm] at h; omega), rfl⟩
      · have h0 : 0 ≤ atI L y := by assumption
        have h1 : fi < atI L y := by assumption
        go_round
        case rel => exact ⟨j + 1, y, atI L y, by omega, rfl, rfl, by go_num, Lib.hid (hup.out (atI_ge h0) h1)⟩
        case measure => simp [intOf]; omega
      · have h0 : 0 ≤ atI L y := by assumption
        have h1 : atI L y ≤ fi := by assumption
        go_round
        case rel => exact ⟨j + 1, bi, fi, by omega, rfl, rfl, by go_num, Lib.hid (hst.out (atI_ge h0) h1)⟩
        case measure => simp [intOf]; omega
    · have hjl : j = c.length := by omega
      subst hjl
      have hd := HF.out.done hne
      clear hcc
      go_wp2_with fail
      go_ret
      exact ⟨_, rfl, hd, rfl⟩
end Go.Proofs.YtmfhlojmoehmiaaGreat

/- the farthest next use: the program's plan, played -/
namespace Go.Proofs.YtmfhlojmoehmiaaGreat
open Go.RowKit

/-- one place of a plan -/
def StepP (k : Nat) (l : List Int) (r : Int) (c c' : List Int) (o : Int) : Prop :=
  if r ∈ c then c' = c ∧ o = -1 else if c.length = k then IsFar l c o ∧ c' = stay (· == o) c ++ [r] else c' = c ++ [r] ∧ o = -1
/-- the first j places of the plan of the farthest next use; cs: the caches ahead of each place -/
structure Pln (k : Nat) (rq : List Int) (j : Nat) (cs : Nat → List Int) (pl : List Int) : Prop where
  len : pl.length = j
  zero : cs 0 = []
  step : ∀ i, i < j → StepP k (rq.drop (i + 1)) (rq.getD i 0) (cs i) (cs (i + 1)) (pl.getD i 0)
theorem Pln.start (k : Nat) (rq : List Int) : Pln k rq 0 (fun _ => []) [] := ⟨rfl, rfl, fun i hi => by omega⟩
theorem Pln.next {k : Nat} {rq : List Int} {j : Nat} {cs : Nat → List Int} {pl : List Int} (h : Pln k rq j cs pl) {r : Int} {c' : List Int} {o : Int} (hr : rq.getD j 0 = r) (hs : StepP k (rq.drop (j + 1)) r (cs j) c' o) :
    Pln k rq (j + 1) (fun i => if i ≤ j then cs i else c') (pl ++ [o]) := by
  refine ⟨by simp [h.len], by simp [h.zero], fun i hi => ?_⟩
  by_cases e : i = j
  · subst e
    rw [if_pos (Nat.le_refl _), if_neg (by omega), hr]
    have : (pl ++ [o]).getD i 0 = o := by rw [← h.len]; simp
    rw [this]; exact hs
  · have : (pl ++ [o]).getD i 0 = pl.getD i 0 := by
      rw [List.getD_eq_getElem?_getD, List.getElem?_append_left (by rw [h.len]; omega), ← List.getD_eq_getElem?_getD]
    rw [if_pos (by omega), if_pos (by omega), this]
    exact h.step i (by omega)
theorem stay_filter (p : Int) (c : List Int) : stay (· == p) c = c.filter (· != p) := rfl
theorem StepP.to5 {k : Nat} {l : List Int} {r : Int} {c c' : List Int} {o : Int} (h : StepP k l r c c' o) : Step5 k l r c c' := by
  unfold StepP at h
  unfold Step5
  split
  · rename_i hr; rw [if_pos hr] at h; exact h.1
  · rename_i hr
    rw [if_neg hr] at h
    split
    · rename_i hk; rw [if_pos hk] at h; exact ⟨o, h.1, h.2⟩
    · rename_i hk; rw [if_neg hk] at h; exact h.1
theorem Pln.ok {k : Nat} {rq : List Int} {j : Nat} {cs : Nat → List Int} {pl : List Int} (h : Pln k rq j cs pl) : ∀ i, i ≤ j → (cs i).Nodup ∧ (cs i).length ≤ k := by
  intro i
  induction i with
  | zero => intro _; rw [h.zero]; exact ⟨by simp, by simp⟩
  | succ i ih =>
    intro hi
    obtain ⟨h1, h2⟩ := ih (by omega)
    obtain ⟨g1, g2, _, _⟩ := (h.step i (by omega)).to5.ok h1 h2
    exact ⟨g1, g2⟩
/-- the faults among the first i places -/
def missC (rq : List Int) (cs : Nat → List Int) : Nat → Nat
  | 0 => 0
  | i + 1 => if hasB (cs i) (rq.getD i 0) then missC rq cs i else missC rq cs i + 1
theorem missC_le (rq : List Int) (cs : Nat → List Int) (i : Nat) : missC rq cs i ≤ i := by
  induction i with
  | zero => exact Nat.le_refl _
  | succ i ih => unfold missC; split <;> omega
theorem Pln.far {k : Nat} {rq : List Int} {cs : Nat → List Int} {pl : List Int} (h : Pln k rq rq.length cs pl) : Far k rq [] (missC rq cs rq.length) := by
  have key : ∀ d i, i + d = rq.length → ∃ f, Far k (rq.drop i) (cs i) f ∧ missC rq cs rq.length = missC rq cs i + f := by
    intro d
    induction d with
    | zero =>
      intro i hi
      have : i = rq.length := by omega
      subst this
      exact ⟨0, by rw [List.drop_length]; rfl, rfl⟩
    | succ d ih =>
      intro i hi
      obtain ⟨f, h1, h2⟩ := ih (i + 1) (by omega)
      have hd : rq.drop i = rq.getD i 0 :: rq.drop (i + 1) := by
        rw [List.drop_eq_getElem_cons (by omega), List.getD_eq_getElem?_getD, List.getElem?_eq_getElem (by omega)]; rfl
      rw [hd]
      refine ⟨_, ⟨cs (i + 1), f, (h.step i (by omega)).to5, h1, rfl⟩, ?_⟩
      rw [h2]
      show missC rq cs (i + 1) + f = _
      rw [missC]
      by_cases hm : rq.getD i 0 ∈ cs i
      · rw [if_pos (by simpa [hasB] using hm), if_pos hm]
      · rw [if_neg (by simpa [hasB] using hm), if_neg hm]; omega
  obtain ⟨f, h1, h2⟩ := key rq.length 0 (by omega)
  rw [h.zero, List.drop_zero] at h1
  rw [h2]
  have : missC rq cs 0 = 0 := rfl
  rw [this, Nat.zero_add]
  exact h1

theorem cfPlan (x : Int) (c0 : Value) (w : World) : (callFunc 222 #[.int .i64 x, c0]).run Tryz.prog w = .ok (.enter 222 #[.int .i64 x, c0]) w := by kernel_rfl
theorem cfFar (x : Int) (v c0 : Value) (w : World) : (callFunc 200 #[.int .i64 x, v, c0]).run Tryz.prog w = .ok (.enter 200 #[.int .i64 x, v, c0]) w := by kernel_rfl
set_option maxHeartbeats 400000 in
theorem planBy1_any (x o : Int) (b : Nat) (w : World) (hc : w.cell? ⟨b, 0, none⟩ = some (.int .i64 o)) :
    Calls Tryz.prog 222 #[.int .i64 x, .pointer (some ⟨b, 0, none⟩)] w fun e w' => e = .returned (.bool (x == o)) ∧ w = w' := by
  go_enter Tryz.func222, Tryz.ntmps222
  go_wp2_with fail
  go_ret
  exact ⟨rfl, rfl⟩
set_option maxHeartbeats 400000 in
theorem farthest1_any (A B : Nat → Prop) (i b : Nat) (vr vc : Value) (rq c : List Int) (w : World) (hcell : w.cell? ⟨b, 0, none⟩ = some vr) (hr : RI A w vr rq) (hc : RI B w vc c) (hi : i < rq.length) (hne : 0 < c.length) :
    Calls Tryz.prog 200 #[.int .i64 (i : Int), vc, .pointer (some ⟨b, 0, none⟩)] w fun e w' => ∃ p, e = .returned (.int .i64 p) ∧ IsFar (rq.drop (i + 1)) c p ∧ w = w' := by
  obtain ⟨ra, rn, rc, rfl⟩ := hr.shape
  obtain ⟨ca, cn, cc, rfl⟩ := hc.shape
  go_enter Tryz.func200, Tryz.ntmps200
  go_wp2_with fail
  refine (farthest_any A B i _ _ rq c w hr hc hi hne).mono ?_
  rintro e w' ⟨p, rfl, hp, rfl⟩
  go_wp2_with fail
  go_ret
  exact ⟨_, rfl, hp, rfl⟩
theorem drewNo (w : World) : Chg No w w.drew := (Chg.refl No w).drew

set_option maxRecDepth 100000 in
set_option maxHeartbeats 2000000 in
theorem planBy_any (K : Nat) (hK : 1 ≤ K ∧ K ≤ 6) (vr : Value) (rq : List Int) (w : World) (hr : RI No w vr rq) (b : Nat) (hb : w.cell? ⟨b, 0, none⟩ = some vr) :
    Calls Tryz.prog 199 #[.int .i64 (K : Int), vr, .func (.func 200) #[] #[.pointer (some ⟨b, 0, none⟩)]] w
      (Ret fun r w' => ∃ cs pl, OI w.heap.size w' r pl ∧ Pln K rq rq.length cs pl ∧ Chg No w w') := by
  have hlr := hr.len
  have hbl := World.block_lt_of_cell? w _ hb
  obtain ⟨ra, rcap, rfl, _, _, _, _, hcr⟩ := id hr
  have HCR := Lib.hid hcr
  clear hcr
  have hcf : ∀ x v (w : World), (callFunc 200 #[.int .i64 x, v, .pointer (some ⟨b, 0, none⟩)]).run Tryz.prog w = .ok (.enter 200 #[.int .i64 x, v, .pointer (some ⟨b, 0, none⟩)]) w := fun x v w => cfFar x v _ w
  have HCF := Lib.hid hcf
  clear hcf
  have k1 := ((Chg.refl No w).alloc (.cells #[] 3)).alloc (.cells #[] 3)
  have o1 : OI w.heap.size ((w.alloc (.cells #[] 3)).alloc (.cells #[] 3)) (.slice (some ⟨w.heap.size, 0, none⟩) 0 0) [] := (OI.zero (Nat.le_refl _)).alloc _
  have o2 : OI w.heap.size ((w.alloc (.cells #[] 3)).alloc (.cells #[] 3)) (.slice (some ⟨w.heap.size + 1, 0, none⟩) 0 0) [] := OI.zeroAt (by simp) (by omega)
  go_enter Tryz.func199, Tryz.ntmps199
  go_wp2_with fail
  go_loopw [7, 8, 16] (fun vc vo z wr => ∃ (j : Nat) (cs : Nat → List Int) (c pl : List Int), j ≤ rq.length ∧ z = .int .i64 (j : Int) ∧ OI w.heap.size wr vc c ∧ OI w.heap.size wr vo pl ∧ Hid (∀ q, own vc q → ¬ own vo q) ∧ Hid (Pln K rq j cs pl) ∧ Hid (cs j = c) ∧ c.length ≤ K ∧ pl.length = j ∧ Chg No w wr) (fun _ _ z _ => rq.length - (intOf z).toNat)
  case atStart => exact ⟨0, _, [], [], Nat.zero_le _, rfl, o1, o2, Lib.hid (fun q h1 h2 => by simp [own, Value.ownBlock] at h1 h2; omega), Lib.hid (Pln.start K rq), Lib.hid rfl, by simp, rfl, k1⟩
  case round =>
    clear o1 o2 k1
    obtain ⟨j, cs, c, pl, hj, rfl, oc, op, HD, HP, HC, hcl, hpl, hch⟩ := hrel
    by_cases hlt : j < rq.length
    · obtain ⟨rb, off, rfl, _, hrb, hcell⟩ := HCR.out (by intro e; simp [e] at hlt)
      have hcl2 := (hch.cellD rb (off + j) hrb (fun e => e)).trans (hcell j hlt)
      obtain ⟨x, hx⟩ : ∃ x, rq.getD j 0 = x := ⟨_, rfl⟩
      rw [hx] at hcl2
      have HX := Lib.hid hx
      have hj0 : (0 : Int) ≤ (j : Int) := Int.natCast_nonneg _
      have hj1 : (j : Int) < (rq.length : Int) := by omega
      have hw1 : IntKind.i64.wrap ((j : Int) + 1) = (j : Int) + 1 := IntWalk.i64_in _ (by omega)
      obtain ⟨ca, cap, rfl, _⟩ := id oc.view
      obtain ⟨oa, ocap, rfl, _⟩ := id op.view
      clear hcell hx
      have bl : (wr.alloc (.cells #[.int .i64 (-1)] 3)).cell? ⟨wr.heap.size, 0, none⟩ = some (.int .i64 (-1)) := by rw [World.cell?_alloc_new]; rfl
      have bf : (wr.alloc (.cells #[.int .i64 (-1)] 3)).frozen? ⟨wr.heap.size, 0, none⟩ = false := World.frozen?_alloc_new _ _ _ _
      have kw := (Chg.refl No wr).alloc (.cells #[.int .i64 (-1)] 3)
      have hws : wr.heap.size < (wr.alloc (.cells #[.int .i64 (-1)] 3)).heap.size := by simp
      have hsz := hch.size
      have HLO : Hid (∀ q, own (.slice ca c.length cap) q → q < wr.heap.size) := Lib.hid (fun q hq => (oc.lt q hq).2)
      have HLP : Hid (∀ q, own (.slice oa pl.length ocap) q → q < wr.heap.size) := Lib.hid (fun q hq => (op.lt q hq).2)
      replace oc := oc.keep kw
      replace op := op.keep kw
      replace hch := hch.keep kw
      have HPL := Lib.hid hpl
      clear hpl
      have hc17 : c.length < 17592186044416 := by omega
      have hp17 : pl.length < 17592186044416 := by rw [HPL.out]; omega
      go_wp2_with fail
      generalize wr.alloc (.cells #[.int .i64 (-1)] 3) = W at *
      refine (Contains_any No _ c x W oc.readNo).mono ?_
      rintro e w' ⟨rfl, rfl⟩
      cases hh : hasB c x
      · have hxc : x ∉ c := by simpa [hasB] using hh
        clear hh
        by_cases hf : c.length = K
        · have hfi : ((c.length : Int) == (K : Int)) = true := by rw [hf]; simp
          have HF := Lib.hid hf
          clear hf
          go_wp2_with fail
          refine (rising_any No _ c W oc.readNo).mono ?_
          rintro e w5 ⟨v5, rfl, o5, k5⟩
          obtain ⟨ra5, rc5, rfl, _⟩ := id o5.view
          have HCF1 := HCF.out
          go_wp2_with fail
          clear HCF1
          have hb5 := ((hch.keep k5).cellD b 0 hbl (fun e => e)).trans hb
          have hne : 0 < (diffL c).length := by
            have hcp : 0 < c.length := by have := HF.out; omega
            obtain ⟨y, hy⟩ := List.exists_mem_of_length_pos hcp
            exact List.length_pos_of_mem (diffL_mem.2 hy)
          refine (farthest1_any No No j b _ _ rq (diffL c) w5 hb5 (hr.keep (hch.keep k5)) o5.readNo hlt hne).mono ?_
          rintro e w' ⟨p, rfl, hp, rfl⟩
          have HS : Hid (StepP K (rq.drop (j + 1)) x (cs j) (stay (· == p) c ++ [x]) p) := Lib.hid (by
            rw [HC.out]; unfold StepP; rw [if_neg hxc, if_pos HF.out]; exact ⟨hp.same (fun y => diffL_mem), rfl⟩)
          have bf5 : w5.frozen? ⟨wr.heap.size, 0, none⟩ = false := (k5.frozenD wr.heap.size 0 hws (fun e => e)).trans bf
          have bl5 := (k5.cellD wr.heap.size 0 hws (fun e => e)).trans bl
          have ks := (Chg.refl (fun q => q = wr.heap.size) w5).setCell (p := ⟨wr.heap.size, 0, none⟩) (fun _ => rfl) (.int .i64 p)
          have blS : (w5.setCell ⟨wr.heap.size, 0, none⟩ (.int .i64 p)).cell? ⟨wr.heap.size, 0, none⟩ = some (.int .i64 p) := World.cell?_setCell_same _ _ _ bl5
          have ocS := (oc.keep k5).step ks (fun q hq e => by have := HLO.out q hq; omega)
          have opS := (op.keep k5).step ks (fun q hq e => by have := HLP.out q hq; omega)
          have chS := (hch.keep k5).step ks (fun q hq hl => by omega)
          have hwS : wr.heap.size < (w5.setCell ⟨wr.heap.size, 0, none⟩ (.int .i64 p)).heap.size := by have := k5.size; simp [World.setCell]; omega
          clear hp hb5 hne oc op hch k5 o5 kw bl bf
          go_wp2_with fail
          clear bl5 bf5
          generalize w5.setCell ⟨wr.heap.size, 0, none⟩ (.int .i64 p) = W5 at *
          refine (DeleteFunc_any _ _ c W5 ocS 222 (.pointer (some ⟨wr.heap.size, 0, none⟩)) (· == p) (fun x w => cfPlan x _ w) (fun w2 h2 x => planBy1_any x p _ w2 ((h2.cellD wr.heap.size 0 hwS (fun e => by have := HLO.out _ e; omega)).trans blS))).mono ?_
          rintro e w6 ⟨v6, rfl, o6, k6, f6⟩
          obtain ⟨c6, n6, rfl, _⟩ := id o6.view
          have op6 := opS.step k6 (fun q h1 h2 => HD.out q h2 h1)
          have ch6 := chS.step k6 (fun q hq hl => by have := (ocS.lt q hq).1; omega)
          have bl6 := (k6.cellD wr.heap.size 0 hwS (fun e => by have := HLO.out _ e; omega)).trans blS
          have hw6 : wr.heap.size < w6.heap.size := Nat.lt_of_lt_of_le hwS k6.size
          have hs6 := ch6.size
          have h617 : (stay (· == p) c).length < 17592186044416 := by have := stay_len (· == p) c; omega
          clear k6 ocS opS chS blS hwS ks
          obtain ⟨m, hm⟩ : ∃ m, stay (· == p) c ++ [x] = m := ⟨_, rfl⟩
          have HL8 : Hid (m.length ≤ K) := Lib.hid (by
            have h1 := HP.out.ok j (Nat.le_refl _)
            rw [HC.out] at h1
            have h2 := HS.out.to5
            rw [HC.out, hm] at h2
            exact (h2.ok h1.1 h1.2).2.1)
          rw [hm] at HS
          have HM := Lib.hid hm
          clear hm
          go_wp2_with (at_builtin; refine wapp1 rfl (.tmp 37) (.tmp 39) rfl o6 rfl rfl h617 hs6 ?_)
          intro v8 w8 oc8 k8 f8
          rw [HM.out] at oc8
          obtain ⟨c8, n8, rfl, _⟩ := id oc8.view
          have op8 := op6.step k8 (fun q h1 h2 => HD.out q (f6 q h2) h1)
          have bl8 := (k8.cellD wr.heap.size 0 hw6 (fun e => by have := HLO.out _ (f6 _ e); omega)).trans bl6
          have hd8 := Lib.hid (fun q (h1 : own (.slice c8 m.length n8) q) (h2 : own (.slice oa pl.length ocap) q) => show False by
            rcases f8 q h1 with h | h
            · exact HD.out q (f6 q h) h2
            · have := (op6.lt q h2).2; omega)
          have ch8 := ch6.step k8 (fun q hq hl => by have := (o6.lt q hq).1; omega)
          have hs8 := ch8.size
          clear k8 op6 bl6 ch6 hs6 o6
          go_wp2_with (at_builtin; refine wapp1 rfl (.tmp 41) (.tmp 43) rfl op8 rfl rfl hp17 hs8 ?_)
          intro v9 w9 o9 k9 f9
          obtain ⟨oz, ozc, rfl, _⟩ := id o9.view
          go_wp2_with fail
          go_round
          case rel => exact ⟨j + 1, _, m, _, by omega, by go_num, oc8.step k9 hd8.out, o9, Lib.hid (fun q h1 h2 => by rcases f9 q h2 with h | h; exact hd8.out q h1 h; have := (oc8.lt q h1).2; omega), Lib.hid (HP.out.next HX.out HS.out), Lib.hid (if_neg (by omega)), HL8.out, by rw [List.length_append, HPL.out]; rfl, ch8.step k9 (fun q hq hl => by have := (op8.lt q hq).1; omega)⟩
          case measure => simp [intOf]; omega
        · have hfi : ((c.length : Int) == (K : Int)) = false := by rw [beq_eq_false_iff_ne]; omega
          have HS : Hid (StepP K (rq.drop (j + 1)) x (cs j) (c ++ [x]) (-1)) := Lib.hid (by rw [HC.out]; unfold StepP; rw [if_neg hxc, if_neg hf]; exact ⟨rfl, rfl⟩)
          have HL8 : Hid ((c ++ [x]).length ≤ K) := Lib.hid (by rw [List.length_append, List.length_singleton]; omega)
          obtain ⟨m, hm⟩ : ∃ m, c ++ [x] = m := ⟨_, rfl⟩
          rw [hm] at HS HL8
          have HM := Lib.hid hm
          clear hm hf
          go_wp2_with (at_builtin; refine wapp1 rfl (.tmp 37) (.tmp 39) rfl oc rfl rfl hc17 (by omega) ?_)
          intro v8 w8 oc8 k8 f8
          rw [HM.out] at oc8
          obtain ⟨c8, n8, rfl, _⟩ := id oc8.view
          have op8 := op.step k8 (fun q h1 h2 => HD.out q h2 h1)
          have bl8 := (k8.cellD wr.heap.size 0 hws (fun e => by have := HLO.out _ e; omega)).trans bl
          have hd8 := Lib.hid (fun q (h1 : own (.slice c8 m.length n8) q) (h2 : own (.slice oa pl.length ocap) q) => show False by
            rcases f8 q h1 with h | h
            · exact HD.out q h h2
            · have := (op.lt q h2).2; omega)
          have ch8 := hch.step k8 (fun q hq hl => by have := (oc.lt q hq).1; omega)
          have hs8 := ch8.size
          clear k8 oc op bl hch
          go_wp2_with (at_builtin; refine wapp1 rfl (.tmp 41) (.tmp 43) rfl op8 rfl rfl hp17 hs8 ?_)
          intro v9 w9 o9 k9 f9
          obtain ⟨oz, ozc, rfl, _⟩ := id o9.view
          go_wp2_with fail
          go_round
          case rel => exact ⟨j + 1, _, m, _, by omega, by go_num, oc8.step k9 hd8.out, o9, Lib.hid (fun q h1 h2 => by rcases f9 q h2 with h | h; exact hd8.out q h1 h; have := (oc8.lt q h1).2; omega), Lib.hid (HP.out.next HX.out HS.out), Lib.hid (if_neg (by omega)), HL8.out, by rw [List.length_append, HPL.out]; rfl, ch8.step k9 (fun q hq hl => by have := (op8.lt q hq).1; omega)⟩
          case measure => simp [intOf]; omega
      · have hxc : x ∈ c := by simpa [hasB] using hh
        have HS : Hid (StepP K (rq.drop (j + 1)) x (cs j) c (-1)) := Lib.hid (by rw [HC.out]; unfold StepP; rw [if_pos hxc]; exact ⟨rfl, rfl⟩)
        have hsW := hch.size
        have HL8 := Lib.hid hcl
        clear hh hcl
        go_wp2_with (at_builtin; refine wapp1 rfl (.tmp 41) (.tmp 43) rfl op rfl rfl hp17 hsW ?_)
        intro v9 w9 o9 k9 f9
        obtain ⟨oz, ozc, rfl, _⟩ := id o9.view
        go_wp2_with fail
        go_round
        case rel => exact ⟨j + 1, _, c, _, by omega, by go_num, oc.step k9 HD.out, o9, Lib.hid (fun q h1 h2 => by rcases f9 q h2 with h | h; exact HD.out q h1 h; have := (oc.lt q h1).2; omega), Lib.hid (HP.out.next HX.out HS.out), Lib.hid (if_neg (by omega)), HL8.out, by rw [List.length_append, HPL.out]; rfl, hch.step k9 (fun q hq hl => by have := (op.lt q hq).1; omega)⟩
        case measure => simp [intOf]; omega
    · have hjl : j = rq.length := by omega
      subst hjl
      go_wp2_with fail
      go_ret
      exact ⟨_, rfl, cs, pl, op, HP.out, hch⟩
end Go.Proofs.YtmfhlojmoehmiaaGreat

/- the program's fewest faults -/
namespace Go.Proofs.YtmfhlojmoehmiaaGreat
open Go.RowKit

theorem Pln.mem {k : Nat} {rq : List Int} {j : Nat} {cs : Nat → List Int} {pl : List Int} (h : Pln k rq j cs pl) (hj : j ≤ rq.length) : ∀ i, i ≤ j → ∀ x ∈ cs i, x ∈ rq := by
  intro i
  induction i with
  | zero => intro _ x hx; rw [h.zero] at hx; cases hx
  | succ i ih =>
    intro hi x hx
    obtain ⟨h1, h2⟩ := h.ok i (by omega)
    obtain ⟨_, _, _, g4⟩ := (h.step i (by omega)).to5.ok h1 h2
    rcases g4 x hx with hx | rfl
    · exact ih (by omega) x hx
    · exact getD_mem (by omega)
theorem erase_stay {c : List Int} (h : c.Nodup) {p : Int} (hp : p ∈ c) : c.eraseIdx (atI c p).toNat = stay (· == p) c := by
  rw [atI_in hp, Int.toNat_natCast, stay_filter, ← List.Nodup.erase_eq_filter h, List.erase_eq_eraseIdx_of_idxOf]
  rfl
theorem elInts2 : El 158 23 (.slice none 0 0) 1 24 := El.mk' Tryz.underlying158 (by kernel_rfl) rfl (by omega)
theorem notOwnNew {g q : Nat} (h : own (.slice (some ⟨g, 0, none⟩) 0 0) q) : q = g := by
  simp only [own, Value.ownBlock] at h
  exact (Option.some.inj h).symm

set_option maxRecDepth 100000 in
set_option maxHeartbeats 4000000 in
theorem played_any (K : Nat) (hK : 1 ≤ K ∧ K ≤ 6) (vr vp : Value) (rq pl : List Int) (cs : Nat → List Int) (w : World) (hr : RI No w vr rq) (hp : RI No w vp pl) (hP : Pln K rq rq.length cs pl) (hneg : ∀ x ∈ rq, 0 ≤ x) (hl60 : rq.length ≤ 60) :
    Calls Tryz.prog 164 #[.int .i64 (K : Int), vr, vp] w (Ret fun r w' => (∃ v0, r = .tuple #[v0, .int .i64 (missC rq cs rq.length : Int), .bool true]) ∧ Chg No w w') := by
  have HPP := Lib.hid hP
  have HNEG := Lib.hid hneg
  have hpl := hP.len
  obtain ⟨ra, rcap, rfl, _, _, _, _, hcr⟩ := id hr
  obtain ⟨pa, pcap, rfl, _, _, _, _, hcp⟩ := id hp
  have HCR := Lib.hid hcr
  have HCP := Lib.hid hcp
  have HPL := Lib.hid hpl
  clear hcr hcp hpl hneg hP
  have hplI : (pl.length : Int) = (rq.length : Int) := by rw [HPL.out]
  have HPI := Lib.hid hplI
  clear hplI
  have k1 := ((Chg.refl No w).alloc (.cells #[] 3)).alloc (.cells #[] 23)
  have o1 : OI w.heap.size ((w.alloc (.cells #[] 3)).alloc (.cells #[] 23)) (.slice (some ⟨w.heap.size, 0, none⟩) 0 0) [] := (OI.zero (Nat.le_refl _)).alloc _
  have o2 : OS 23 1 w.heap.size ((w.alloc (.cells #[] 3)).alloc (.cells #[] 23)) (.slice (some ⟨w.heap.size + 1, 0, none⟩) 0 0) 0 [] := by
    have := OS.zero (E := 23) (sz := 1) (base := w.heap.size) (w := w.alloc (.cells #[] 3)) (by simp)
    rwa [World.size_alloc] at this
  go_enter Tryz.func164, Tryz.ntmps164
  go_wp2_with fail
  go_loopw [9, 10, 11, 20] (fun vc vo vf z wr => ∃ (j : Nat) (c : List Int) (us : List Value), j ≤ rq.length ∧ z = .int .i64 (j : Int) ∧ vf = .int .i64 (missC rq cs j : Int) ∧ OI w.heap.size wr vc c ∧ OS 23 1 w.heap.size wr vo j us ∧ Hid (∀ q, own vc q → ¬ own vo q) ∧ Hid (cs j = c) ∧ c.length ≤ K ∧ Chg No w wr) (fun _ _ _ z _ => rq.length - (intOf z).toNat)
  case atStart => exact ⟨0, [], [], Nat.zero_le _, rfl, rfl, o1, o2, Lib.hid (fun q h1 h2 => by have := notOwnNew h1; have := notOwnNew h2; omega), Lib.hid HPP.out.zero, by simp, k1⟩
  case round =>
    clear o1 o2 k1
    obtain ⟨j, c, us, hj, rfl, rfl, oc, oo, HD, HC, hcl, hch⟩ := hrel
    by_cases hlt : j < rq.length
    · obtain ⟨rb, off, rfl, _, hrb, hcell⟩ := HCR.out (by intro e; simp [e] at hlt)
      have hcl2 := (hch.cellD rb (off + j) hrb (fun e => e)).trans (hcell j hlt)
      obtain ⟨pb, poff, rfl, _, hpb, hpcell⟩ := HCP.out (by intro e; have := HPL.out; rw [e] at this; simp at this; omega)
      have hcl3 := (hch.cellD pb (poff + j) hpb (fun e => e)).trans (hpcell j (by rw [HPL.out]; exact hlt))
      have HST := Lib.hid (HPP.out.step j hlt)
      have HMC : Hid (missC rq cs (j + 1) = if hasB (cs j) (rq.getD j 0) then missC rq cs j else missC rq cs j + 1) := Lib.hid rfl
      have hx0 := HNEG.out _ (getD_mem hlt)
      have hcok := HPP.out.ok j hj
      have hcm := HPP.out.mem (Nat.le_refl _) j hj
      have hmok := (HPP.out.ok (j + 1) hlt).2
      have hmle := missC_le rq cs j
      obtain ⟨x, hx⟩ : ∃ x, rq.getD j 0 = x := ⟨_, rfl⟩
      obtain ⟨o, ho⟩ : ∃ o, pl.getD j 0 = o := ⟨_, rfl⟩
      obtain ⟨m, hm⟩ : ∃ m, cs (j + 1) = m := ⟨_, rfl⟩
      obtain ⟨mc, hmc⟩ : ∃ mc, missC rq cs j = mc := ⟨_, rfl⟩
      rw [HC.out] at hcok hcm HST HMC
      rw [hx] at hcl2 HST HMC hx0
      rw [ho] at hcl3 HST
      rw [hm] at HST hmok
      rw [hmc] at HMC hmle ⊢
      have HM1 : Hid (cs (j + 1) = m) := Lib.hid hm
      have hj0 : (0 : Int) ≤ (j : Int) := Int.natCast_nonneg _
      have hj1 : (j : Int) < (rq.length : Int) := by omega
      have hj2 : (j : Int) < (pl.length : Int) := by rw [HPI.out]; exact hj1
      have hw1 : IntKind.i64.wrap ((j : Int) + 1) = (j : Int) + 1 := IntWalk.i64_in _ (by omega)
      have hw2 : IntKind.i64.wrap ((mc : Int) + 1) = (mc : Int) + 1 := IntWalk.i64_in _ (by omega)
      have hmc0 : (0 : Int) ≤ (mc : Int) := Int.natCast_nonneg _
      have hn17 : j < 1099511627776 := by omega
      have hc17 : c.length < 17592186044416 := by omega
      have hsz := hch.size
      obtain ⟨ca, cap, rfl, _⟩ := id oc.view
      obtain ⟨oa, ocap, rfl, _⟩ := id oo.view
      have HOK := Lib.hid hcok
      have HCM := Lib.hid hcm
      clear hcell hpcell hx ho hm hmc hcok hcm
      go_wp2_with fail
      refine (Contains_any No _ c x wr oc.readNo).mono ?_
      rintro e w' ⟨rfl, rfl⟩
      cases hh : hasB c x
      · have hxc : x ∉ c := by simpa [hasB] using hh
        have FF : Hid (Value.int .i64 ((mc : Int) + 1) = Value.int .i64 (missC rq cs (j + 1) : Int)) := Lib.hid (by rw [HMC.out, hh]; simp)
        clear hh
        by_cases hf : c.length = K
        · have hst := HST.out
          unfold StepP at hst
          rw [if_neg hxc, if_pos hf] at hst
          obtain ⟨hfar, hm⟩ := hst
          have hoc := hfar.1
          have hidx := atI_in hoc
          have hil := List.idxOf_lt_length_of_mem hoc
          have herase := erase_stay HOK.out.1 hoc
          rw [hidx, Int.toNat_natCast] at herase
          obtain ⟨i, hi⟩ : ∃ i, c.idxOf o = i := ⟨_, rfl⟩
          rw [hi] at hidx hil herase
          rw [← herase] at hm
          have HIX := Lib.hid hidx
          have HMM := Lib.hid hm
          have hi0 : (0 : Int) ≤ (i : Int) := Int.natCast_nonneg _
          have hwi : IntKind.i64.wrap ((i : Int) + 1) = (i : Int) + 1 := IntWalk.i64_in _ (by omega)
          have he17 : (c.eraseIdx i).length < 17592186044416 := by have := List.length_eraseIdx_le c i; omega
          clear hfar hoc hidx herase hi hm hf
          go_wp2_with (go_at_call 171; refine (Index_any No _ c o _ oc.readNo).mono ?_; rintro e w' ⟨rfl, hww⟩; subst hww; rw [HIX.out])
          refine (Delete1_any _ _ c i _ wr oc hil rfl).mono ?_
          rintro e w6 ⟨v6, rfl, o6, k6, f6⟩
          obtain ⟨c6, n6, rfl, _⟩ := id o6.view
          have oo6 := oo.step k6 (fun q h1 h2 => HD.out q h2 h1)
          have ch6 := hch.step k6 (fun q hq hl => by have := (oc.lt q hq).1; omega)
          have hs6 := ch6.size
          clear k6 hcl2 hcl3
          go_wp2_with (at_builtin; refine wapp1 rfl (.tmp 50) (.tmp 52) rfl o6 rfl rfl he17 hs6 ?_)
          intro v8 w8 oc8 k8 f8
          rw [← HMM.out] at oc8
          obtain ⟨c8, n8, rfl, _⟩ := id oc8.view
          have oo8 := oo6.step k8 (fun q h1 h2 => HD.out q (f6 q h2) h1)
          have HD8 := Lib.hid (fun q (h1 : own (.slice c8 m.length n8) q) (h2 : own (.slice oa j ocap) q) => show False by
            rcases f8 q h1 with h | h
            · exact HD.out q (f6 q h) h2
            · have := (oo6.lt q h2).2; omega)
          have hch8 := ch6.step k8 (fun q hq hl => by have := (o6.lt q hq).1; omega)
          have hmk : ¬ ((K : Int) < (m.length : Int)) := by omega
          clear k8 oo6 ch6 hs6 o6 oc oo hch f6 f8
          go_wp2_with fail
          refine (rising_any No _ m w8 oc8.readNo).mono ?_
          rintro e w9 ⟨v9, rfl, o9, k9⟩
          obtain ⟨a9, n9, q9, rfl⟩ := o9.shape
          have oo9 := oo8.keep k9
          have oc9 := oc8.keep k9
          have hs9 := (hch8.keep k9).size
          have hn9 := oo9.len
          go_wp2_with (at_builtin; refine wappS1 elInts2 (by omega) rfl (.tmp 58) (.tmp 61) rfl oo9 rfl (by simp [Value.oneCell']) rfl rfl hn17 (by omega) ?_)
          intro v7 w7 h7 k7 f7
          obtain ⟨a7, c7, rfl, _⟩ := h7.view
          have oc7 := oc9.step k7 HD8.out
          have hch7 := (hch8.keep k9).step k7 (fun q hq hl => by have := (oo9.lt q hq).1; omega)
          have HD7 := Lib.hid (fun q (h1 : own (.slice c8 m.length n8) q) (h2 : own (.slice a7 (j + 1) c7) q) => show False by
            rcases f7 q h2 with h | h
            · exact HD8.out q h1 h
            · have := (oc9.lt q h1).2; omega)
          clear k7 k9 o9 oo9 oc9 oo8 oc8 hch8
          go_wp2_with fail
          go_round
          case rel => exact ⟨j + 1, m, _, by omega, by go_num, FF.out, oc7, h7, HD7, HM1, by omega, hch7⟩
          case measure => simp [intOf]; omega
        · have hst := HST.out
          unfold StepP at hst
          rw [if_neg hxc, if_neg hf] at hst
          obtain ⟨hm, rfl⟩ := hst
          have HMM := Lib.hid hm
          have HIX : Hid (atI c (-1) = -1) := Lib.hid (atI_none c (-1) (by
            have : (-1 : Int) ∉ c := fun e => by have := HNEG.out _ (HCM.out _ e); omega
            simpa [hasB] using this))
          clear hm hf
          go_wp2_with (first
            | (go_at_call 171; refine (Index_any No _ c (-1) _ oc.readNo).mono ?_; rintro e w' ⟨rfl, hww⟩; subst hww; rw [HIX.out])
            | (at_builtin; refine wapp1 rfl (.tmp 50) (.tmp 52) rfl oc rfl rfl hc17 hsz ?_))
          intro v8 w8 oc8 k8 f8
          rw [← HMM.out] at oc8
          obtain ⟨c8, n8, rfl, _⟩ := id oc8.view
          have oo8 := oo.step k8 (fun q h1 h2 => HD.out q h2 h1)
          have HD8 := Lib.hid (fun q (h1 : own (.slice c8 m.length n8) q) (h2 : own (.slice oa j ocap) q) => show False by
            rcases f8 q h1 with h | h
            · exact HD.out q h h2
            · have := (oo.lt q h2).2; omega)
          have hch8 := hch.step k8 (fun q hq hl => by have := (oc.lt q hq).1; omega)
          have hmk : ¬ ((K : Int) < (m.length : Int)) := by omega
          clear k8 oc oo hch f8 hcl2 hcl3
          go_wp2_with fail
          refine (rising_any No _ m w8 oc8.readNo).mono ?_
          rintro e w9 ⟨v9, rfl, o9, k9⟩
          obtain ⟨a9, n9, q9, rfl⟩ := o9.shape
          have oo9 := oo8.keep k9
          have oc9 := oc8.keep k9
          have hs9 := (hch8.keep k9).size
          have hn9 := oo9.len
          go_wp2_with (at_builtin; refine wappS1 elInts2 (by omega) rfl (.tmp 58) (.tmp 61) rfl oo9 rfl (by simp [Value.oneCell']) rfl rfl hn17 (by omega) ?_)
          intro v7 w7 h7 k7 f7
          obtain ⟨a7, c7, rfl, _⟩ := h7.view
          have oc7 := oc9.step k7 HD8.out
          have hch7 := (hch8.keep k9).step k7 (fun q hq hl => by have := (oo9.lt q hq).1; omega)
          have HD7 := Lib.hid (fun q (h1 : own (.slice c8 m.length n8) q) (h2 : own (.slice a7 (j + 1) c7) q) => show False by
            rcases f7 q h2 with h | h
            · exact HD8.out q h1 h
            · have := (oc9.lt q h1).2; omega)
          clear k7 k9 o9 oo9 oc9 oo8 oc8 hch8
          go_wp2_with fail
          go_round
          case rel => exact ⟨j + 1, m, _, by omega, by go_num, FF.out, oc7, h7, HD7, HM1, by omega, hch7⟩
          case measure => simp [intOf]; omega
      · have hxc : x ∈ c := by simpa [hasB] using hh
        have hst := HST.out
        unfold StepP at hst
        rw [if_pos hxc] at hst
        obtain ⟨rfl, rfl⟩ := hst
        have FF : Hid (Value.int .i64 (mc : Int) = Value.int .i64 (missC rq cs (j + 1) : Int)) := Lib.hid (by rw [HMC.out, hh]; simp)
        clear hh
        clear hcl2 hcl3
        go_wp2_with fail
        refine (rising_any No _ m wr oc.readNo).mono ?_
        rintro e w9 ⟨v9, rfl, o9, k9⟩
        obtain ⟨a9, n9, q9, rfl⟩ := o9.shape
        have oo9 := oo.keep k9
        have oc9 := oc.keep k9
        have hs9 := (hch.keep k9).size
        have hn9 := oo9.len
        go_wp2_with (at_builtin; refine wappS1 elInts2 (by omega) rfl (.tmp 58) (.tmp 61) rfl oo9 rfl (by simp [Value.oneCell']) rfl rfl hn17 (by omega) ?_)
        intro v7 w7 h7 k7 f7
        obtain ⟨a7, c7, rfl, _⟩ := h7.view
        have oc7 := oc9.step k7 HD.out
        have hch7 := (hch.keep k9).step k7 (fun q hq hl => by have := (oo9.lt q hq).1; omega)
        have HD7 := Lib.hid (fun q (h1 : own (.slice ca m.length cap) q) (h2 : own (.slice a7 (j + 1) c7) q) => show False by
          rcases f7 q h2 with h | h
          · exact HD.out q h1 h
          · have := (oc9.lt q h1).2; omega)
        clear k7 k9 o9 oo9 oc9 oo oc hch
        go_wp2_with fail
        go_round
        case rel => exact ⟨j + 1, m, _, by omega, by go_num, FF.out, oc7, h7, HD7, HM1, by omega, hch7⟩
        case measure => simp [intOf]; omega
    · have hjl : j = rq.length := by omega
      subst hjl
      obtain ⟨oa, ocap, rfl, _⟩ := id oo.view
      go_wp2_with fail
      refine bodyPost_ret (v := .tuple #[.slice oa rq.length ocap, .int .i64 (missC rq cs rq.length : Int), .bool true]) (by simp [results, Tryz.results164, go_sem]) rfl ?_
      exact ⟨_, rfl, ⟨_, rfl⟩, hch⟩
end Go.Proofs.YtmfhlojmoehmiaaGreat

/- the reference's table of least numbers of faults -/
namespace Go.Proofs.YtmfhlojmoehmiaaGreat
open Go.RowKit

/-- a row of slices of int, each in a block of its own, in a block of the call's -/
structure TabW (base : Nat) (w : World) (g n : Nat) (vs : List Value) (ll : List (List Int)) : Prop where
  os : OS 23 1 base w (.slice (some ⟨g, 0, none⟩) n n) n vs
  vl : vs.length = n
  rl : ll.length = n
  row : ∀ i, i < n → OI base w (vs.getD i undef) (ll.getD i [])
  far : ∀ i, i < n → ∀ q, own (vs.getD i undef) q → q ≠ g
  dis : ∀ i j, i < n → j < n → i ≠ j → ∀ q, own (vs.getD i undef) q → ¬ own (vs.getD j undef) q
theorem TabW.keep {base : Nat} {w w' : World} {g n : Nat} {vs : List Value} {ll : List (List Int)} (h : TabW base w g n vs ll) (hc : Chg No w w') : TabW base w' g n vs ll :=
  ⟨h.os.keep hc, h.vl, h.rl, fun i hi => (h.row i hi).keep hc, h.far, h.dis⟩
theorem getD_set_self {α : Type} (l : List α) (i : Nat) (x d : α) (hi : i < l.length) : (l.set i x).getD i d = x := by simp [List.getD_eq_getElem?_getD, hi]
theorem getD_set_other {α : Type} (l : List α) (i j : Nat) (x d : α) (h : i ≠ j) : (l.set i x).getD j d = l.getD j d := by simp [List.getD_eq_getElem?_getD, h]
/-- t[i] = x, x grown out of what stood there -/
theorem TabW.put {base : Nat} {w w' : World} {g n : Nat} {vs : List Value} {ll : List (List Int)} (h : TabW base w g n vs ll) {i : Nat} (hi : i < n) {x : Value} {l : List Int} (ho : OI base w' x l) (hc : Chg (own (vs.getD i undef)) w w')
    (hf : ∀ q, own x q → own (vs.getD i undef) q ∨ w.heap.size ≤ q) :
    TabW base (w'.setCell ⟨g, i, none⟩ x) g n (vs.set i x) (ll.set i l) ∧ Chg (fun q => q = g ∨ own (vs.getD i undef) q) w (w'.setCell ⟨g, i, none⟩ x) := by
  have hg : g < w.heap.size := (h.os.at).2.2.2.1
  have hgi : ¬ own (vs.getD i undef) g := fun e => h.far i hi g e rfl
  have hxg : ∀ q, own x q → q ≠ g := fun q hq e => by
    subst e
    rcases hf q hq with h1 | h1
    · exact hgi h1
    · omega
  have hos := h.os.step hc (fun q hq => by rw [own_slice.1 hq]; exact hgi)
  obtain ⟨s1, s2⟩ := hos.store i x
  have hvl := h.vl
  have hll := h.rl
  refine ⟨⟨s1, by simpa using h.vl, by simpa using h.rl, fun j hj => ?_, fun j hj q hq => ?_, fun j k hj hk hjk q hq => ?_⟩, ?_⟩
  · by_cases e : j = i
    · subst e
      rw [getD_set_self _ _ _ _ (by omega), getD_set_self _ _ _ _ (by omega)]
      exact ho.step s2 (fun q hq e => hxg q hq e)
    · rw [getD_set_other _ _ _ _ _ (Ne.symm e), getD_set_other _ _ _ _ _ (Ne.symm e)]
      exact ((h.row j hj).step hc (fun q hq e2 => h.dis j i hj hi e q hq e2)).step s2 (fun q hq e => h.far j hj q hq e)
  · by_cases e : j = i
    · subst e
      rw [getD_set_self _ _ _ _ (by omega)] at hq
      exact hxg q hq
    · rw [getD_set_other _ _ _ _ _ (Ne.symm e)] at hq
      exact h.far j hj q hq
  · by_cases e : j = i
    · subst e
      rw [getD_set_self _ _ _ _ (by omega)] at hq
      rw [getD_set_other _ _ _ _ _ hjk]
      intro hk2
      rcases hf q hq with h1 | h1
      · exact h.dis j k hj hk hjk q h1 hk2
      · have := ((h.row k hk).lt q hk2).2; omega
    · rw [getD_set_other _ _ _ _ _ (Ne.symm e)] at hq
      by_cases e2 : k = i
      · subst e2
        rw [getD_set_self _ _ _ _ (by omega)]
        intro hk2
        rcases hf q hk2 with h1 | h1
        · exact h.dis j k hj hk hjk q hq h1
        · have := ((h.row j hj).lt q hq).2; omega
      · rw [getD_set_other _ _ _ _ _ (Ne.symm e2)]
        exact h.dis j k hj hk hjk q hq
  · exact (hc.mono (T := fun q => q = g ∨ own (vs.getD i undef) q) (fun q hq _ => .inr hq)).step s2 (fun q hq _ => .inl hq)
theorem TabW.low {base : Nat} {w : World} {g n : Nat} {vs : List Value} {ll : List (List Int)} (h : TabW base w g n vs ll) {i : Nat} (hi : i < n) (q : Nat) (hq : q = g ∨ own (vs.getD i undef) q) : base ≤ q := by
  rcases hq with rfl | hq
  · exact (h.os.at).2.2.1
  · exact ((h.row i hi).lt q hq).1
/-- the cell of one of its rows -/
theorem TabW.cell {base : Nat} {w : World} {g n : Nat} {vs : List Value} {ll : List (List Int)} (h : TabW base w g n vs ll) {i : Nat} (hi : i < n) : w.cell? ⟨g, i, none⟩ = some (vs.getD i undef) ∧ w.frozen? ⟨g, i, none⟩ = false :=
  ⟨(h.os.at).1 i (by rw [h.vl]; exact hi), (h.os.at).2.1 i⟩

/-- row i of the table -/
def rowL (K n : Nat) (lr : List Nat) (i : Nat) : List Int := (List.range (2 ^ n)).map fun s => dpM K n (lr.drop i) s
/-- the table from row q on -/
def tabL (K n : Nat) (lr : List Nat) (q : Nat) : List (List Int) := (List.range (lr.length + 1)).map fun t => if q ≤ t then rowL K n lr t else []
theorem rowL_len (K n : Nat) (lr : List Nat) (i : Nat) : (rowL K n lr i).length = 2 ^ n := by simp [rowL]
theorem tabL_len (K n : Nat) (lr : List Nat) (q : Nat) : (tabL K n lr q).length = lr.length + 1 := by simp [tabL]
theorem rowL_at (K n : Nat) (lr : List Nat) (i s : Nat) (hs : s < 2 ^ n) : (rowL K n lr i).getD s 0 = dpM K n (lr.drop i) s := by simp [rowL, List.getD_eq_getElem?_getD, hs]
theorem rowL_snoc (K n : Nat) (lr : List Nat) (i s : Nat) (hs : s < 2 ^ n) : (rowL K n lr i).take (s + 1) = (rowL K n lr i).take s ++ [dpM K n (lr.drop i) s] := by
  rw [List.take_succ_eq_append_getElem (by rw [rowL_len]; exact hs)]
  congr 2
  simp [rowL]
theorem tabL_at (K n : Nat) (lr : List Nat) (q t : Nat) (ht : t < lr.length + 1) : (tabL K n lr q).getD t [] = if q ≤ t then rowL K n lr t else [] := by simp [tabL, List.getD_eq_getElem?_getD, ht]
theorem tabL_set (K n : Nat) (lr : List Nat) (i : Nat) (_hi : i < lr.length + 1) : (tabL K n lr (i + 1)).set i (rowL K n lr i) = tabL K n lr i := by
  apply List.ext_getElem
  · simp [tabL]
  · intro t h1 h2
    simp only [tabL, List.length_map, List.length_range] at h2
    rw [List.getElem_set]
    split
    · rename_i e; subst e; simp [tabL]
    · rename_i e
      simp only [tabL, List.getElem_map, List.getElem_range]
      by_cases h : i ≤ t
      · rw [if_pos (by omega), if_pos h]
      · rw [if_neg (by omega), if_neg h]
theorem tabL_last (K n : Nat) (lr : List Nat) : (List.replicate (lr.length + 1) ([] : List Int)).set lr.length (List.replicate (2 ^ n) 0) = tabL K n lr lr.length := by
  apply List.ext_getElem
  · simp [tabL]
  · intro t h1 h2
    simp only [tabL, List.length_map, List.length_range] at h2
    rw [List.getElem_set]
    split
    · rename_i e; subst e
      simp only [tabL, List.getElem_map, List.getElem_range, Nat.le_refl, if_true, rowL, List.drop_length]
      have : (fun s : Nat => dpM K n [] s) = fun _ => (0 : Int) := by funext s; rfl
      rw [this, List.map_const', List.length_range]
    · rename_i e
      simp only [tabL, List.getElem_map, List.getElem_range, List.getElem_replicate]
      rw [if_neg (by omega)]
theorem set_set_same (l : List (List Int)) (i : Nat) (a b : List Int) : (l.set i a).set i b = l.set i b := by simp

set_option maxRecDepth 100000 in
set_option maxHeartbeats 4000000 in
theorem l5Fewest_any (K n : Nat) (hK : 1 ≤ K ∧ K ≤ 6) (hn : 1 ≤ n ∧ n ≤ 8) (vr : Value) (rq : List Int) (lr : List Nat) (w : World) (hr : RI No w vr rq) (hlr : rq = lr.map Int.ofNat) (hlow : ∀ x ∈ lr, x < n) (hl60 : lr.length ≤ 60) :
    Calls Tryz.prog 182 #[.int .i64 (K : Int), .int .i64 (n : Int), vr] w (Ret fun v w' => ∃ g b N c, v = .slice (some ⟨g, 0, none⟩) (lr.length + 1) (lr.length + 1) ∧ w'.cell? ⟨g, 0, none⟩ = some (.slice (some ⟨b, 0, none⟩) N c) ∧ 0 < N ∧
      w'.cell? ⟨b, 0, none⟩ = some (.int .i64 (dpM K n lr 0)) ∧ Chg No w w') := by
  have hrl : rq.length = lr.length := by rw [hlr, List.length_map]
  obtain ⟨ra, rcap, rfl, _, _, _, _, hcr⟩ := id hr
  have HCR := Lib.hid hcr
  clear hcr
  rw [hrl] at hr HCR ⊢
  obtain ⟨N, hN⟩ : ∃ N, 2 ^ n = N := ⟨_, rfl⟩
  have hpw : wrap64 (2 ^ n) = (N : Int) := by rw [pow_wrap n (by omega), hN]
  have hN8 : N ≤ 256 := by rw [← hN]; exact pow8 hn.2
  have hN0 : 0 < N := by rw [← hN]; exact Nat.two_pow_pos n
  have HN := Lib.hid hN
  have HRL := Lib.hid hrl
  have HLR := Lib.hid hlr
  have HLOW := Lib.hid hlow
  clear hlow hN hrl hlr
  obtain ⟨M, hM⟩ : ∃ M, lr.length + 1 = M := ⟨_, rfl⟩
  rw [hM]
  have HM := Lib.hid hM
  have hM1 : M ≤ lr.length + 1 := by omega
  have hM2 : lr.length + 1 ≤ M := by omega
  clear hM
  obtain ⟨i0, hi, hz0, hz1, hz2⟩ := elInts2.info
  have hwl : IntKind.i64.wrap ((lr.length : Int) + 1) = (M : Int) := (IntWalk.i64_in _ (by omega)).trans (by omega)
  go_enter Tryz.func182, Tryz.ntmps182
  go_wp2_with (refine wpList_make_full _ rfl (.tmp 16) (.tmp 16) 158 rfl w.heap.size 23 i0 (.slice none 0 0) 1 elInts2.und hi hz0 hz1 .i64 .i64 _ _ M rfl rfl rfl rfl (by rw [hz2]; omega) (by unfold maxLen; omega) (Nat.le_refl _) ?_)
  intro W hW hg
  have hch0 := Chg.grownNone hg
  have hT0 : TabW w.heap.size W w.heap.size M (List.replicate M (.slice none 0 0)) (List.replicate M []) := by
    rw [toList_madeCells_one] at hW
    have hnil : ∀ i, i < M → (List.replicate M (Value.slice none 0 0)).getD i undef = .slice none 0 0 := fun i hi => by simp [List.getD_eq_getElem?_getD, hi]
    refine ⟨⟨by omega, by simpa using hW⟩, by simp, by simp, fun i hi => ?_, fun i hi q hq => ?_, fun i j hi _ _ q hq => ?_⟩
    · rw [hnil i hi]
      have : (List.replicate M ([] : List Int)).getD i [] = [] := by simp [List.getD_eq_getElem?_getD, hi]
      rw [this]; exact OI.nil _ _
    · rw [hnil i hi] at hq; simp [own, Value.ownBlock] at hq
    · rw [hnil i hi] at hq; simp [own, Value.ownBlock] at hq
  clear hg hW hz0 hz1 hz2 hi
  have hsW := hch0.size
  have hgW := hT0.os.at.2.2.2.1
  obtain ⟨hcw, hfw⟩ := hT0.cell (i := lr.length) (by omega)
  go_wp2_with (refine wmake rfl (.tmp 22) (.tmp 22) rfl N (congrArg (Value.int .i64) hpw) (congrArg (Value.int .i64) hpw) (by omega) ?_)
  intro W1 o1 k1
  have hgd : (List.replicate M (Value.slice none 0 0)).getD lr.length undef = .slice none 0 0 := by rw [← HM.out]; simp [List.getD_eq_getElem?_getD]
  obtain ⟨hcw, hfw⟩ := (hT0.keep k1).cell (i := lr.length) (by omega)
  obtain ⟨hT2, k2⟩ := hT0.put (i := lr.length) (by omega) (o1.weak hsW) (k1.mono (fun q hq _ => hq.elim)) (fun q hq => .inr (o1.lt q hq).1)
  have hlow2 := hT0.low (i := lr.length) (by omega)
  have etl := tabL_last K n lr
  rw [HN.out, HM.out] at etl
  rw [etl] at hT2
  rw [hgd] at hcw
  have ch2 := hch0.step k2 (fun q hq hl => by have := hlow2 q hq; omega)
  clear hT0 k1 o1 hgW hch0 hgd etl
  have hwl1 : IntKind.i64.wrap ((lr.length : Int) - 1) = (lr.length : Int) - 1 := IntWalk.i64_in _ (by omega)
  go_wp2_with fail
  clear hcw hfw k2 hlow2
  generalize W1.setCell _ _ = W2 at hT2 ch2 ⊢
  go_loopw [8] (fun z wr => ∃ (q : Nat) (vs : List Value), q ≤ lr.length ∧ z = .int .i64 ((q : Int) - 1) ∧ TabW w.heap.size wr w.heap.size M vs (tabL K n lr q) ∧ Chg No w wr) (fun z _ => (intOf z + 1).toNat)
  case atStart => exact ⟨lr.length, _, Nat.le_refl _, rfl, hT2, ch2⟩
  case round =>
    clear hT2 ch2 W2
    obtain ⟨q, vs, hq, rfl, hT, hch⟩ := hrel
    cases q with
    | zero =>
      rw [show ((0 : Nat) : Int) - 1 = -1 from rfl]
      have hrow := hT.row 0 (by omega)
      obtain ⟨hcg, _⟩ := hT.cell (i := 0) (by omega)
      rw [tabL_at K n lr 0 0 (by omega), if_pos (Nat.le_refl _)] at hrow
      obtain ⟨a1, c1, he1, hn1, hm1, hv1⟩ := hrow.view
      rw [rowL_len, HN.out] at he1 hn1 hv1
      obtain ⟨b1, rfl, _, _, hcells1, _⟩ := hv1 (by omega)
      rw [he1] at hcg
      have h0 := hcells1 0 hN0
      rw [rowL_at K n lr 0 0 (by rw [HN.out]; exact hN0), List.drop_zero] at h0
      clear hrow he1 hn1 hm1 hv1 hcells1 hT
      go_wp2_with fail
      go_ret
      exact ⟨_, rfl, _, _, _, _, rfl, hcg, hN0, h0, hch⟩
    | succ i =>
      rw [show ((i + 1 : Nat) : Int) - 1 = (i : Int) by omega]
      obtain ⟨rb, off, rfl, _, hrb, hcell⟩ := HCR.out (by intro e; have := HRL.out; rw [e] at this; simp at this; omega)
      have hcl := hcell i (by omega)
      obtain ⟨r, hrr⟩ : ∃ r, lr.getD i 0 = r := ⟨_, rfl⟩
      have hrg : rq.getD i 0 = (r : Int) := by
        rw [HLR.out, ← hrr, List.getD_eq_getElem?_getD, List.getElem?_map, List.getD_eq_getElem?_getD, List.getElem?_eq_getElem (by omega)]; rfl
      have hrn : r < n := by
        rw [← hrr, List.getD_eq_getElem?_getD, List.getElem?_eq_getElem (by omega)]
        exact HLOW.out _ (List.getElem_mem _)
      rw [hrg] at hcl
      have HREQ : Hid (∀ W, Chg No w W → W.cell? ⟨rb, off + i, none⟩ = some (.int .i64 (r : Int))) := Lib.hid (fun W h => (h.cellD rb (off + i) hrb (fun e => e)).trans hcl)
      clear hcell hrg hcl
      have hi0 : (0 : Int) ≤ (i : Int) := Int.natCast_nonneg _
      have hi1 : (i : Int) < (lr.length : Int) := by omega
      obtain ⟨i1, hi1e⟩ : ∃ i1, i + 1 = i1 := ⟨_, rfl⟩
      have hwi : IntKind.i64.wrap ((i : Int) + 1) = (i1 : Int) := (IntWalk.i64_in _ (by omega)).trans (by omega)
      have hi1a : i1 ≤ i + 1 := by omega
      have hi1b : i + 1 ≤ i1 := by omega
      have hi1c : (i1 : Int) < (M : Int) := by omega
      have hi1d : (i : Int) < (M : Int) := by omega
      have hi1f : (0 : Int) ≤ (i1 : Int) := Int.natCast_nonneg _
      have HI1 := Lib.hid hi1e
      clear hi1e
      have hwi2 : IntKind.i64.wrap ((i : Int) - 1) = (i : Int) - 1 := IntWalk.i64_in _ (by omega)
      have hdrop : lr.drop i = r :: lr.drop (i + 1) := by
        rw [List.drop_eq_getElem_cons (by omega), ← hrr, List.getD_eq_getElem?_getD, List.getElem?_eq_getElem (by omega)]; rfl
      have HDR := Lib.hid hdrop
      clear hdrop hrr
      go_wp2_with fail
      go_loopw [9] (fun z wr => ∃ (s : Nat) (vs : List Value), s ≤ N ∧ z = .int .i64 (s : Int) ∧ TabW w.heap.size wr w.heap.size M vs ((tabL K n lr (i + 1)).set i ((rowL K n lr i).take s)) ∧ Chg No w wr) (fun z _ => N - (intOf z).toNat)
      case atStart =>
        refine ⟨0, vs, Nat.zero_le _, rfl, ?_, hch⟩
        have e : (tabL K n lr (i + 1)).set i ((rowL K n lr i).take 0) = tabL K n lr (i + 1) := by
          have h0 := tabL_at K n lr (i + 1) i (by omega)
          rw [if_neg (by omega)] at h0
          rw [List.take_zero]
          apply List.ext_getElem
          · simp
          · intro t h1 h2
            rw [List.getElem_set]
            split
            · rename_i et; subst et
              rw [List.getD_eq_getElem?_getD, List.getElem?_eq_getElem h2] at h0
              exact h0.symm
            · rfl
        rw [e]; exact hT
      case round =>
        clear hT hch vs
        obtain ⟨s, vs, hs, rfl, hT, hch⟩ := hrel
        have hcl := HREQ.out wr hch
        have hs0 : (0 : Int) ≤ (s : Int) := Int.natCast_nonneg _
        have hws : IntKind.i64.wrap ((s : Int) + 1) = (s : Int) + 1 := IntWalk.i64_in _ (by omega)
        by_cases hsN : s < N
        · have hsI : (s : Int) < (N : Int) := by omega
          have hsz := hch.size
          have hrow := hT.row (i + 1) (by omega)
          rw [getD_set_other _ _ _ _ _ (by omega : i ≠ i + 1), tabL_at K n lr (i + 1) (i + 1) (by omega), if_pos (Nat.le_refl _)] at hrow
          obtain ⟨a1, c1, he1, hn1, hm1, hv1⟩ := hrow.view
          rw [rowL_len, HN.out] at he1 hn1 hv1
          obtain ⟨b1, rfl, hb1, hb1', hcells1, _⟩ := hv1 (by omega)
          have hcell1 := (hT.cell (i := i + 1) (by omega)).1
          rw [he1, HI1.out] at hcell1
          have hgl := (hT.os.at).2.2.2.1
          have HROW : Hid (∀ W, Chg No wr W → W.cell? ⟨w.heap.size, i1, none⟩ = some (.slice (some ⟨b1, 0, none⟩) N c1) ∧ ∀ t, t < N → W.cell? ⟨b1, t, none⟩ = some (.int .i64 (dpM K n (lr.drop (i + 1)) t))) := Lib.hid (fun W h => by
            refine ⟨(h.cellD _ _ hgl (fun e => e)).trans hcell1, fun t ht => ?_⟩
            rw [h.cellD _ _ hb1' (fun e => e), hcells1 t ht, rowL_at K n lr (i + 1) t (by rw [HN.out]; exact ht)])
          clear hrow he1 hn1 hm1 hv1 hcells1 hcell1
          have HT := Lib.hid hT
          clear hT
          go_wp2_with fail
          refine (l5Choices_any K n s r hK.2 hn.2 (by omega) (by omega) wr).mono ?_
          rintro e w3 ⟨v3, rfl, o3, k3⟩
          obtain ⟨L, hL⟩ : ∃ L, chs K n s r = L := ⟨_, rfl⟩
          have hLr : ∀ o ∈ L, -1 ≤ o ∧ (0 ≤ o → o < n ∧ s.testBit o.toNat = true) := fun o ho => chs_range (by rw [hL]; exact ho)
          have hLo : szM s ≤ K → ∀ o ∈ L, aft s r o < 2 ^ n ∧ szM (aft s r o) ≤ K := fun h o ho => aft_ok hn.2 (by rw [HN.out]; exact hsN) h hrn (by rw [hL]; exact ho)
          have hdp : dpM K n (lr.drop i) s = if szM s ≤ K then leastM (L.map fun o => dpM K n (lr.drop (i + 1)) (aft s r o) + (if s.testBit r then 0 else 1)) (-1) else -1 := by rw [HDR.out, dpM, hL]
          rw [hL] at o3
          have HLR2 := Lib.hid hLr
          have HLO := Lib.hid hLo
          have HDP := Lib.hid hdp
          clear hLr hLo hdp hL
          obtain ⟨la, lc, rfl, hlc1, hlc2, hlv⟩ := id o3.view
          have HLV := Lib.hid hlv
          clear hlv
          go_wp2_with fail
          go_loopw [10, 12] (fun vb z wq => ∃ (j : Nat) (b : Int), j ≤ L.length ∧ z = .int .i64 (j : Int) ∧ vb = .int .i64 b ∧ Hid (b = if szM s ≤ K then leastM ((L.take j).map fun o => dpM K n (lr.drop (i + 1)) (aft s r o) + (if s.testBit r then 0 else 1)) (-1) else -1) ∧ Hid (szM s ≤ K ∨ j = 0) ∧ Chg No w3 wq) (fun _ z _ => L.length - (intOf z).toNat)
          case atStart => exact ⟨0, -1, Nat.zero_le _, rfl, rfl, Lib.hid (by simp [leastM]), Lib.hid (.inr rfl), Chg.refl _ _⟩
          case round =>
            obtain ⟨j, b, hj, rfl, rfl, HB, HZ, hq⟩ := hrel
            have hj0 : (0 : Int) ≤ (j : Int) := Int.natCast_nonneg _
            by_cases hgo : j < L.length ∧ szM s ≤ K
            · obtain ⟨hjl, hsk⟩ := hgo
              have hj1 : (j : Int) < (L.length : Int) := by omega
              have hskI : (szM s : Int) ≤ (K : Int) := by omega
              obtain ⟨cb, rfl, _, hcb, hccell, _⟩ := HLV.out (by omega)
              have hc1 := (hq.cellD cb j hcb (fun e => e)).trans (hccell j hjl)
              obtain ⟨o, ho⟩ : ∃ o, L.getD j 0 = o := ⟨_, rfl⟩
              rw [ho] at hc1
              have hom : o ∈ L := ho ▸ getD_mem hjl
              obtain ⟨t, ht⟩ : ∃ t, aft s r o = t := ⟨_, rfl⟩
              have htok := HLO.out hsk o hom
              rw [ht, HN.out] at htok
              obtain ⟨hr1, hr2⟩ := HROW.out wr (k3.keep hq)
              have hr3 := hr2 t htok.1
              obtain ⟨d, hd⟩ : ∃ d, dpM K n (lr.drop (i + 1)) t = d := ⟨_, rfl⟩
              rw [hd] at hr3
              have hdb := dpM_spec (k := K) hK.1 hn.2 (lr.drop (i + 1)) t (fun x hx => HLOW.out x (List.mem_of_mem_drop hx)) (by rw [HN.out]; exact htok.1) htok.2
              rw [hd, List.length_drop] at hdb
              have hd0 := hdb.1
              have hd1 : d ≤ 60 := by have := hdb.2.1; omega
              have hreq := HREQ.out wr ((hch.keep k3).keep hq)
              have hor := HLR2.out o hom
              have hstep : ∀ b2 : Int, (b2 = if b < 0 ∨ d + (if s.testBit r then 0 else 1) < b then d + (if s.testBit r then 0 else 1) else b) →
                  b2 = if szM s ≤ K then leastM ((L.take (j + 1)).map fun o => dpM K n (lr.drop (i + 1)) (aft s r o) + (if s.testBit r then 0 else 1)) (-1) else -1 := fun b2 e => by
                have hb := HB.out
                rw [if_pos hsk] at hb
                have hgj : L[j] = o := by rw [← ho, List.getD_eq_getElem?_getD, List.getElem?_eq_getElem hjl]; rfl
                rw [if_pos hsk, List.take_succ_eq_append_getElem hjl, List.map_append, List.map_singleton, leastM_snoc, ← hb, hgj, ht, hd]
                exact e
              have HSTEP := Lib.hid hstep
              have ht0 : (t : Int) < (N : Int) := by omega
              have hwj : IntKind.i64.wrap ((j : Int) + 1) = (j : Int) + 1 := IntWalk.i64_in _ (by omega)
              have hwd : IntKind.i64.wrap (d + 1) = d + 1 := IntWalk.i64_in _ (by omega)
              clear hstep hdb hr2 hom hd htok HB hccell ho
              go_wp2_with (go_at_call 217; refine (l5Size_any s (by omega) _).mono ?_; rintro e w' ⟨rfl, hww⟩; subst hww)
              have hor8 : 0 ≤ o → o < 8 ∧ s.testBit o.toNat = true := fun h => ⟨by have := (hor.2 h).1; omega, (hor.2 h).2⟩
              have hAft : ∀ w, Calls Tryz.prog 218 #[.int .i64 (s : Int), .int .i64 (r : Int), .int .i64 o] w fun e w' => e = .returned (.int .i64 (t : Int)) ∧ w = w' := fun w => by
                rw [← ht]; exact l5After_any s r o (by omega) (by omega) w hor.1 hor8
              go_quiet ((go_at_call 218; exact quiet_sym (hAft _)))
              have kd := (Chg.refl No wr).drewN nq
              have hreq1 := (kd.cellD rb (off + i) (by have := (k3.keep hq).size; have := hch.size; omega) (fun e => e)).trans hreq
              replace hq := hq.keep kd
              clear hr1 hr3 hc1 hreq kd hor hor8
              generalize wr.drewN nq = W5 at hq hreq1 ⊢
              cases hbit : s.testBit r
              all_goals
                have HBIT := Lib.hid hbit
                clear hbit
                go_wp2_with (go_at_call 219; refine (l5In_any s r (by omega) (by omega) _).mono ?_; rintro e w' ⟨rfl, hww⟩; subst hww; rw [HBIT.out])
              all_goals
                go_round
                case rel => exact ⟨j + 1, _, by omega, by go_num, rfl, Lib.hid (HSTEP.out _ (by rw [HBIT.out]; simp only [Bool.false_eq_true, if_false, if_true]; split <;> omega)), Lib.hid (.inl hsk), hq⟩
                case measure => simp [intOf]; omega
            · have HV : Hid (b = dpM K n (lr.drop i) s) := Lib.hid (by
                rw [HDP.out, HB.out]
                split
                · rename_i hsk
                  have : j = L.length := by
                    have : ¬ j < L.length := fun e => hgo ⟨e, hsk⟩
                    omega
                  rw [this, List.take_length]
                · rfl)
              have hTq := (HT.out.keep k3).keep hq
              have hrow := hTq.row i (by omega)
              obtain ⟨hcg, hfg⟩ := hTq.cell (i := i) (by omega)
              have hlst : ((tabL K n lr (i + 1)).set i ((rowL K n lr i).take s)).getD i [] = (rowL K n lr i).take s := getD_set_self _ _ _ _ (by rw [tabL_len]; omega)
              rw [hlst] at hrow
              obtain ⟨R, hR⟩ : ∃ R, (rowL K n lr i).take s = R := ⟨_, rfl⟩
              have hRl : R.length < 17592186044416 := by rw [← hR, List.length_take]; omega
              rw [hR] at hrow
              have HR := Lib.hid hR
              have HVS : Hid (vs.getD i undef = vs.getD i undef) := Lib.hid rfl
              obtain ⟨x, hx⟩ : ∃ x, vs.getD i undef = x := ⟨_, rfl⟩
              rw [hx] at hrow hcg
              obtain ⟨xa, xc, rfl, _⟩ := id hrow.view
              have HX := Lib.hid hx
              have chq := (hch.keep k3).keep hq
              have hszq := chq.size
              have hgq : w.heap.size < wr.heap.size := (hTq.os.at).2.2.2.1
              have HTQ := Lib.hid hTq
              clear hx hR hlst hTq HB HDP
              by_cases hjl : j < L.length
              · have hsk : (K : Int) < (szM s : Int) := by
                  have : ¬ szM s ≤ K := fun e => hgo ⟨hjl, e⟩
                  omega
                have hj1 : (j : Int) < (L.length : Int) := by omega
                clear hgo
                go_wp2_with (first
                  | (go_at_call 217; refine (l5Size_any s (by omega) _).mono ?_; rintro e w' ⟨rfl, hww⟩; subst hww)
                  | (at_builtin; refine wapp1 rfl (.tmp 97) (.tmp 99) rfl hrow rfl rfl hRl hszq ?_))
                intro v9 w9 o9 k9 f9
                rw [HV.out, ← HR.out, ← rowL_snoc K n lr i s (by rw [HN.out]; exact hsN)] at o9
                have k9' : Chg (own (vs.getD i undef)) wr w9 := by rw [HX.out]; exact k9
                obtain ⟨hT9, c9⟩ := HTQ.out.put (i := i) (by omega) o9 k9' (fun q hq => by rw [HX.out]; exact f9 q hq)
                have hlow9 := HTQ.out.low (i := i) (by omega)
                have hng : ¬ own (vs.getD i undef) w.heap.size := fun e => HTQ.out.far i (by omega) _ e rfl
                have hcg9 := (k9'.cellD w.heap.size i hgq hng).trans hcg
                have hfg9 := (k9'.frozenD w.heap.size i hgq hng).trans hfg
                rw [set_set_same] at hT9
                obtain ⟨R9, hR9⟩ : ∃ R9, (rowL K n lr i).take (s + 1) = R9 := ⟨_, rfl⟩
                rw [hR9] at hT9 o9
                have HR9 := Lib.hid hR9
                clear hR9
                have ch9 := chq.step c9 (fun q hq hl => by have := hlow9 q hq; omega)
                obtain ⟨ya, yc, rfl, _⟩ := id o9.view
                clear k9 k9' c9 hlow9 hcg hfg
                go_wp2_with fail
                clear hcg9 hfg9
                go_round
                case rel => exact ⟨s + 1, _, by omega, by go_num, by rw [HR9.out]; exact hT9, ch9⟩
                case measure => simp [intOf]; omega
              · have hj1 : ¬ ((j : Int) < (L.length : Int)) := by omega
                clear hgo
                go_wp2_with (first
                  | (go_at_call 217; refine (l5Size_any s (by omega) _).mono ?_; rintro e w' ⟨rfl, hww⟩; subst hww)
                  | (at_builtin; refine wapp1 rfl (.tmp 97) (.tmp 99) rfl hrow rfl rfl hRl hszq ?_))
                intro v9 w9 o9 k9 f9
                rw [HV.out, ← HR.out, ← rowL_snoc K n lr i s (by rw [HN.out]; exact hsN)] at o9
                have k9' : Chg (own (vs.getD i undef)) wr w9 := by rw [HX.out]; exact k9
                obtain ⟨hT9, c9⟩ := HTQ.out.put (i := i) (by omega) o9 k9' (fun q hq => by rw [HX.out]; exact f9 q hq)
                have hlow9 := HTQ.out.low (i := i) (by omega)
                have hng : ¬ own (vs.getD i undef) w.heap.size := fun e => HTQ.out.far i (by omega) _ e rfl
                have hcg9 := (k9'.cellD w.heap.size i hgq hng).trans hcg
                have hfg9 := (k9'.frozenD w.heap.size i hgq hng).trans hfg
                rw [set_set_same] at hT9
                obtain ⟨R9, hR9⟩ : ∃ R9, (rowL K n lr i).take (s + 1) = R9 := ⟨_, rfl⟩
                rw [hR9] at hT9 o9
                have HR9 := Lib.hid hR9
                clear hR9
                have ch9 := chq.step c9 (fun q hq hl => by have := hlow9 q hq; omega)
                obtain ⟨ya, yc, rfl, _⟩ := id o9.view
                clear k9 k9' c9 hlow9 hcg hfg
                go_wp2_with fail
                clear hcg9 hfg9
                go_round
                case rel => exact ⟨s + 1, _, by omega, by go_num, by rw [HR9.out]; exact hT9, ch9⟩
                case measure => simp [intOf]; omega
        · have hsl : s = N := by omega
          subst hsl
          have hTN := hT
          rw [List.take_of_length_le (by rw [rowL_len, HN.out]; exact Nat.le_refl _), tabL_set K n lr i (by omega)] at hTN
          have HTN := Lib.hid hTN
          clear hTN hT hcl
          go_wp2_with fail
          go_round
          case rel => exact ⟨i, vs, by omega, rfl, HTN.out, hch⟩
          case measure => show ((i : Int) - 1 + 1).toNat < ((i : Int) + 1).toNat; omega
end Go.Proofs.YtmfhlojmoehmiaaGreat

/- FewestFaults, both sides -/
namespace Go.Proofs.YtmfhlojmoehmiaaGreat
open Go.RowKit

def pagB (k n : Int) (l : List Int) : Bool := inB k 1 6 && reqB n l
/-- the fewest faults -/
def fewN (k n : Int) (l : List Int) : Int := dpM k.toNat n.toNat (l.map Int.toNat) 0
/-- what is told of them -/
def fewV (k n : Int) (l : List Int) : Int := if pagB k n l then fewN k n l else 0
theorem pagB_facts {k n : Int} {l : List Int} (h : pagB k n l = true) : (1 ≤ k ∧ k ≤ 6) ∧ (1 ≤ n ∧ n ≤ 8) ∧ l.length ≤ 60 ∧ ∀ x ∈ l, 0 ≤ x ∧ x < n := by
  unfold pagB reqB at h
  simp only [Bool.and_eq_true, inB_iff, decide_eq_true_eq] at h
  obtain ⟨h1, ⟨h2, h3⟩, h4⟩ := h
  refine ⟨h1, h2, h3, fun x hx => ?_⟩
  unfold belowB at h4
  have := List.all_eq_true.1 h4 x hx
  simp only [inB_iff] at this
  omega
theorem toNat_back {l : List Int} (h : ∀ x ∈ l, 0 ≤ x) : l = (l.map Int.toNat).map Int.ofNat := by
  rw [List.map_map]
  conv => lhs; rw [← List.map_id l]
  exact List.map_congr_left (fun x hx => by have := h x hx; simp [Function.comp]; omega)
theorem fewN_ok {k n : Int} {l : List Int} (h : pagB k n l = true) : 0 ≤ fewN k n l ∧ Fewest k.toNat l (fewN k n l).toNat := by
  obtain ⟨h1, h2, h3, h4⟩ := pagB_facts h
  have := dpM_fewest (k := k.toNat) (n := n.toNat) (by omega) (by omega) (l.map Int.toNat) (fun x hx => by
    obtain ⟨y, hy, rfl⟩ := List.mem_map.1 hx
    have := h4 y hy
    omega)
  rw [← toNat_back (fun x hx => (h4 x hx).1)] at this
  exact this

set_option maxRecDepth 100000 in
set_option maxHeartbeats 1000000 in
theorem farthestPlan_any (K : Nat) (hK : 1 ≤ K ∧ K ≤ 6) (vr : Value) (rq : List Int) (w : World) (hr : RI No w vr rq) :
    Calls Tryz.prog 165 #[.int .i64 (K : Int), vr] w (Ret fun r w' => ∃ cs pl, OI w.heap.size w' r pl ∧ Pln K rq rq.length cs pl ∧ Chg No w w') := by
  obtain ⟨ra, rn, rc, rfl⟩ := hr.shape
  have k0 := (Chg.refl No w).alloc (.cells #[.slice ra rn rc] 23)
  have hc : (w.alloc (.cells #[.slice ra rn rc] 23)).cell? ⟨w.heap.size, 0, none⟩ = some (.slice ra rn rc) := by rw [World.cell?_alloc_new]; rfl
  go_enter Tryz.func165, Tryz.ntmps165
  go_wp2_with fail
  refine (planBy_any K hK _ rq _ (hr.keep k0) w.heap.size hc).mono ?_
  rintro e w1 ⟨v1, rfl, cs, pl, o1, hP, k1⟩
  obtain ⟨a1, n1, c1, rfl⟩ := o1.shape
  clear hc
  go_wp2_with fail
  go_ret
  exact ⟨_, rfl, cs, pl, o1.weak (by simp), hP, k0.keep k1⟩
set_option maxRecDepth 100000 in
set_option maxHeartbeats 1000000 in
theorem fewestFaults_any (K : Nat) (hK : 1 ≤ K ∧ K ≤ 6) (vr : Value) (rq : List Int) (w : World) (hr : RI No w vr rq) (hneg : ∀ x ∈ rq, 0 ≤ x) (hl60 : rq.length ≤ 60) (f : Nat) (hf : Fewest K rq f) :
    Calls Tryz.prog 98 #[.int .i64 (K : Int), vr] w (Ret fun r w' => r = .int .i64 (f : Int) ∧ Chg No w w') := by
  have HNEG := Lib.hid hneg
  clear hneg
  obtain ⟨ra, rn, rc, rfl⟩ := hr.shape
  go_enter Tryz.func98, Tryz.ntmps98
  go_wp2_with fail
  refine (farthestPlan_any K hK _ rq w hr).mono ?_
  rintro e w1 ⟨v1, rfl, cs, pl, o1, hP, k1⟩
  obtain ⟨a1, n1, c1, rfl⟩ := o1.shape
  go_wp2_with fail
  refine (played_any K hK _ _ rq pl cs w1 (hr.keep k1) o1.readNo hP HNEG.out hl60).mono ?_
  rintro e w2 ⟨_, rfl, ⟨v0, rfl⟩, k2⟩
  have hfe : missC rq cs rq.length = f := (far_fewest hP.far).uni hf
  have HF := Lib.hid hfe
  clear hfe
  go_wp2_with fail
  go_ret
  exact ⟨_, rfl, by rw [HF.out]; rfl, k1.keep k2⟩
set_option maxRecDepth 100000 in
set_option maxHeartbeats 1000000 in
theorem isPaging_any (A : Nat → Prop) (k n : Int) (vr : Value) (rq : List Int) (w : World) (hr : RI A w vr rq) :
    Calls Tryz.prog 97 #[.int .i64 k, .int .i64 n, vr] w (Ret fun r w' => r = .bool (pagB k n rq) ∧ Chg No w w') := by
  obtain ⟨ra, rn, rc, rfl⟩ := hr.shape
  cases h : inB k 1 6
  · have H : Hid (pagB k n rq = false) := Lib.hid (by unfold pagB; rw [h]; rfl)
    have HI := Lib.hid h
    clear h
    go_enter Tryz.func97, Tryz.ntmps97
    go_wp2_with (go_at_call 119; refine (isSize_any _ _).mono ?_; rintro e w' ⟨rfl, hww⟩; subst hww; rw [HI.out])
    go_ret
    exact ⟨_, rfl, by rw [H.out]; rfl, Chg.refl _ _⟩
  · have H : Hid (pagB k n rq = (inB n 1 8 && decide (rq.length ≤ 60) && belowB n rq)) := Lib.hid (by unfold pagB; rw [h]; rfl)
    have HI := Lib.hid h
    clear h
    go_enter Tryz.func97, Tryz.ntmps97
    go_wp2_with (go_at_call 119; refine (isSize_any _ _).mono ?_; rintro e w' ⟨rfl, hww⟩; subst hww; rw [HI.out])
    refine (IsRequests_any A _ rq n w hr).mono ?_
    rintro e w1 ⟨_, rfl, rfl, k1⟩
    rw [← H.out]
    go_wp2_with fail
    go_ret
    exact ⟨_, rfl, rfl, k1⟩
set_option maxRecDepth 100000 in
set_option maxHeartbeats 1000000 in
theorem implFewest_any (k n : Int) (vr : Value) (rq : List Int) (w : World) (hr : RI No w vr rq) :
    Calls Tryz.prog 46 #[.int .i64 k, .int .i64 n, vr] w (Ret2 fun v0 v1 w' => v0 = .int .i64 (fewV k n rq) ∧ v1 = .bool (pagB k n rq) ∧ Chg No w w') := by
  obtain ⟨ra, rn, rc, rfl⟩ := hr.shape
  go_enter Tryz.func46, Tryz.ntmps46
  go_wp2_with fail
  refine (isPaging_any No k n _ rq w hr).mono ?_
  rintro e w1 ⟨_, rfl, rfl, k1⟩
  cases h : pagB k n rq
  · have HV : Hid (fewV k n rq = 0) := Lib.hid (by unfold fewV; rw [h]; rfl)
    have HQ := Lib.hid h
    clear h
    go_wp2_with fail
    go_ret2
    exact ⟨_, _, rfl, by rw [HV.out]; rfl, by rw [HQ.out]; rfl, k1⟩
  · have hv : fewV k n rq = fewN k n rq := by unfold fewV; rw [h]; rfl
    obtain ⟨h1, h2, h3, h4⟩ := pagB_facts h
    obtain ⟨f0, f1⟩ := fewN_ok h
    obtain ⟨K, rfl⟩ := Int.eq_ofNat_of_zero_le (show 0 ≤ k by omega)
    obtain ⟨f, hf⟩ := Int.eq_ofNat_of_zero_le f0
    rw [hf, Int.toNat_natCast, Int.toNat_natCast] at f1
    have HQ := Lib.hid h
    have HF := Lib.hid (hv.trans hf)
    have H4 := Lib.hid h4
    clear h4 h hf f0 hv
    go_wp2_with fail
    refine (fewestFaults_any K (by omega) _ rq w1 (hr.keep k1) (fun x hx => (H4.out x hx).1) h3 f f1).mono ?_
    rintro e w2 ⟨_, rfl, rfl, k2⟩
    go_wp2_with fail
    go_ret2
    exact ⟨_, _, rfl, by rw [HF.out]; rfl, by rw [HQ.out]; rfl, k1.keep k2⟩

set_option maxRecDepth 100000 in
set_option maxHeartbeats 1000000 in
theorem l5Takes_any (A : Nat → Prop) (k n : Int) (vr : Value) (rq : List Int) (w : World) (hr : RI A w vr rq) :
    Calls Tryz.prog 122 #[.int .i64 k, .int .i64 n, vr] w fun e w' => e = .returned (.bool (pagB k n rq)) ∧ w = w' := by
  obtain ⟨ra, rn, rc, rfl⟩ := hr.shape
  cases h : inB k 1 6
  · have H : Hid (pagB k n rq = false) := Lib.hid (by unfold pagB; rw [h]; rfl)
    have HI := Lib.hid h
    clear h
    go_enter Tryz.func122, Tryz.ntmps122
    go_wp2_with (go_at_call 128; refine (l1In_any _ _ _ _).mono ?_; rintro e w' ⟨rfl, hww⟩; subst hww; rw [HI.out])
    go_ret
    exact ⟨ret_bool H.out.symm, rfl⟩
  · have H : Hid (pagB k n rq = (inB n 1 8 && decide (rq.length ≤ 60) && belowB n rq)) := Lib.hid (by unfold pagB; rw [h]; rfl)
    have HI := Lib.hid h
    clear h
    go_enter Tryz.func122, Tryz.ntmps122
    go_wp2_with (go_at_call 128; refine (l1In_any _ _ _ _).mono ?_; rintro e w' ⟨rfl, hww⟩; subst hww; rw [HI.out])
    refine (l3Good_any A _ rq n w hr).mono ?_
    rintro e w1 ⟨rfl, rfl⟩
    rw [← H.out]
    go_wp2_with fail
    go_ret
    exact ⟨rfl, rfl⟩
set_option maxRecDepth 100000 in
set_option maxHeartbeats 1000000 in
theorem l5Opt_any (k n : Int) (vr : Value) (rq : List Int) (w : World) (hr : RI No w vr rq) (hp : pagB k n rq = true) :
    Calls Tryz.prog 123 #[.int .i64 k, .int .i64 n, vr] w (Ret fun r w' => r = .int .i64 (fewN k n rq) ∧ Chg No w w') := by
  obtain ⟨h1, h2, h3, h4⟩ := pagB_facts hp
  have hlr := toNat_back (fun x hx => (h4 x hx).1)
  have HLR := Lib.hid hlr
  have hlow : ∀ x ∈ rq.map Int.toNat, x < n.toNat := fun x hx => by
    obtain ⟨y, hy, rfl⟩ := List.mem_map.1 hx
    have := h4 y hy
    omega
  have HLOW := Lib.hid hlow
  obtain ⟨K, rfl⟩ := Int.eq_ofNat_of_zero_le (show 0 ≤ k by omega)
  obtain ⟨N, rfl⟩ := Int.eq_ofNat_of_zero_le (show 0 ≤ n by omega)
  have HV : Hid (fewN (K : Int) (N : Int) rq = dpM K N (rq.map Int.toNat) 0) := Lib.hid rfl
  obtain ⟨ra, rn, rc, rfl⟩ := hr.shape
  clear hlr hlow h4 hp
  go_enter Tryz.func123, Tryz.ntmps123
  go_wp2_with fail
  refine (l5Fewest_any K N (by omega) (by omega) _ rq (rq.map Int.toNat) w hr HLR.out HLOW.out (by rw [List.length_map]; exact h3)).mono ?_
  rintro e w1 ⟨_, rfl, g, b, M, c, rfl, c1, hM, c2, k1⟩
  obtain ⟨z, hz⟩ : ∃ z, (rq.map Int.toNat).length + 1 = z := ⟨_, rfl⟩
  rw [hz]
  have hz0 : (0 : Int) < (z : Int) := by omega
  have hM0 : (0 : Int) < (M : Int) := by omega
  clear hz
  go_wp2_with fail
  go_ret
  exact ⟨_, rfl, by rw [HV.out]; rfl, k1⟩
set_option maxRecDepth 100000 in
set_option maxHeartbeats 1000000 in
theorem specFewest_any (k n : Int) (vr : Value) (rq : List Int) (w : World) (hr : RI No w vr rq) :
    Calls Tryz.prog 58 #[.int .i64 k, .int .i64 n, vr] w (Ret2 fun v0 v1 w' => v0 = .int .i64 (fewV k n rq) ∧ v1 = .bool (pagB k n rq) ∧ Chg No w w') := by
  obtain ⟨ra, rn, rc, rfl⟩ := hr.shape
  go_enter Tryz.func58, Tryz.ntmps58
  go_wp2_with fail
  refine (l5Takes_any No k n _ rq w hr).mono ?_
  rintro e w1 ⟨rfl, rfl⟩
  cases h : pagB k n rq
  · have HV : Hid (fewV k n rq = 0) := Lib.hid (by unfold fewV; rw [h]; rfl)
    have HQ := Lib.hid h
    clear h
    go_wp2_with fail
    go_ret2
    exact ⟨_, _, rfl, by rw [HV.out]; rfl, by rw [HQ.out]; rfl, Chg.refl _ _⟩
  · have HV : Hid (fewV k n rq = fewN k n rq) := Lib.hid (by unfold fewV; rw [h]; rfl)
    have HQ := Lib.hid h
    have H := Lib.hid h
    clear h
    go_wp2_with fail
    refine (l5Opt_any k n _ rq w hr H.out).mono ?_
    rintro e w2 ⟨_, rfl, rfl, k2⟩
    go_wp2_with fail
    go_ret2
    exact ⟨_, _, rfl, by rw [HV.out]; rfl, by rw [HQ.out]; rfl, k2⟩
end Go.Proofs.YtmfhlojmoehmiaaGreat

/- a Player's part and the fewest faults of it, both sides -/
namespace Go.Proofs.YtmfhlojmoehmiaaGreat
open Go.RowKit

/-- the part of a Player, and the fewest faults of it -/
def partL (t : To) (i : Nat) : List Int := t.reqs.drop (t.ps.getD i dPl).frm.toNat
def fewT (t : To) (i : Nat) : Int := fewN (t.ps.getD i dPl).ca.size t.items (partL t i)
theorem tour_player {t : To} (ht : tourB t = true) {i : Nat} (hi : i < t.ps.length) : playB (t.ps.getD i dPl) t.reqs = true := by
  unfold tourB at ht
  simp only [Bool.and_eq_true, List.all_eq_true] at ht
  refine ht.2.2 _ ?_
  rw [List.getD_eq_getElem?_getD, List.getElem?_eq_getElem hi]
  exact List.getElem_mem hi
theorem tour_facts {t : To} (ht : tourB t = true) {i : Nat} (hi : i < t.ps.length) : (0 ≤ (t.ps.getD i dPl).frm ∧ (t.ps.getD i dPl).frm ≤ t.reqs.length) ∧ (1 ≤ (t.ps.getD i dPl).ca.pol ∧ (t.ps.getD i dPl).ca.pol ≤ 7) ∧
    pagB (t.ps.getD i dPl).ca.size t.items (partL t i) = true ∧ (t.ps.getD i dPl).fa = ((places (newC (t.ps.getD i dPl).ca.pol (t.ps.getD i dPl).ca.size) (partL t i)).length : Int) := by
  have h1 := tour_player ht hi
  unfold playB at h1
  simp only [Bool.and_eq_true, inB_iff, beq_iff_eq] at h1
  obtain ⟨⟨h2, h3, h4⟩, _, h6⟩ := h1
  refine ⟨h2, h3, ?_, h6.symm⟩
  unfold tourB reqB at ht
  simp only [Bool.and_eq_true, inB_iff, decide_eq_true_eq] at ht
  unfold pagB reqB partL
  simp only [Bool.and_eq_true, inB_iff, decide_eq_true_eq]
  refine ⟨h4, ⟨ht.1.1.1, ?_⟩, ?_⟩
  · rw [List.length_drop]; have := ht.1.1.2; omega
  · have hb := ht.1.2
    unfold belowB at hb ⊢
    rw [List.all_eq_true] at hb ⊢
    exact fun x hx => hb x (List.mem_of_mem_drop hx)

set_option maxRecDepth 100000 in
set_option maxHeartbeats 1000000 in
theorem part_at (v : Value) (t : To) (i : Nat) (w : World) (h : RT No w v t) (hi : i < t.ps.length) (hf : 0 ≤ (t.ps.getD i dPl).frm ∧ (t.ps.getD i dPl).frm ≤ t.reqs.length) :
    ∃ a n c, RI No w (.slice a n c) (partL t i) ∧ ∀ W0, Chg No w W0 → Calls Tryz.prog 89 #[v, .int .i64 (i : Int)] W0 (fun e w' => e = .returned (.slice a n c) ∧ Chg No W0 w') := by
  obtain ⟨it, ps, rq⟩ := t
  obtain ⟨pv, rv, rfl, hps, hrq⟩ := h
  unfold partL
  simp only at hps hrq hi hf ⊢
  obtain ⟨ra, rc, rfl, _⟩ := id hrq
  obtain ⟨a, cap, rfl, hcap, hmax, hlen, pf, mf, hl, hcl⟩ := id hps
  obtain ⟨b, off, rfl, _, hb, hcell⟩ := hcl (by intro e; simp [e] at hi)
  have h7' := hcell i hi
  obtain ⟨y, hy⟩ : ∃ y, ps.getD i dPl = y := ⟨_, rfl⟩
  rw [hy] at h7' hf ⊢
  obtain ⟨xs, hx, hrx⟩ := hrq.from y.frm.toNat y.frm (by omega) (by omega)
  obtain ⟨xa, xn, xc, rfl⟩ := hrx.shape
  refine ⟨xa, xn, xc, hrx, fun W0 k => ?_⟩
  have h7 := h7'.step k hb (fun e => e)
  have hb0 : b < W0.heap.size := Nat.lt_of_lt_of_le hb k.size
  have hi0 : (0 : Int) ≤ (i : Int) := Int.natCast_nonneg _
  have hi1 : (i : Int) < (ps.length : Int) := by omega
  have k0 := (Chg.refl No W0).alloc (.cells #[.int .i64 it, .slice (some ⟨b, off, none⟩) ps.length cap, .slice ra rq.length rc] 31)
  have b0 := Box3.new W0 (.int .i64 it) (.slice (some ⟨b, off, none⟩) ps.length cap) (.slice ra rq.length rc) 31
  obtain ⟨C, hC1, hC2⟩ : ∃ C : World → Prop, (∀ W, C W → Box3 W W0.heap.size (.int .i64 it) (.slice (some ⟨b, off, none⟩) ps.length cap) (.slice ra rq.length rc) ∧ Chg No W0 W) ∧
      (∀ W, Box3 W W0.heap.size (.int .i64 it) (.slice (some ⟨b, off, none⟩) ps.length cap) (.slice ra rq.length rc) → Chg No W0 W → C W) := ⟨_, fun _ h => h, fun _ h h' => ⟨h, h'⟩⟩
  have HCELL : Hid (∀ W, C W → W.cell? ⟨W0.heap.size, 0, none⟩ = some (.int .i64 it) ∧ W.cell? ⟨W0.heap.size, 1, none⟩ = some (.slice (some ⟨b, off, none⟩) ps.length cap) ∧ W.cell? ⟨W0.heap.size, 2, none⟩ = some (.slice ra rq.length rc) ∧
      W.cell? ⟨b, off + i * 7, none⟩ = some (.int .i64 y.frm) ∧ True) := Lib.hid (fun W hW => by
    obtain ⟨g1, g2⟩ := hC1 W hW
    have g3 := h7.step g2 hb0 (fun e => e)
    exact ⟨g1.c0, g1.c1, g1.c2, g3.c0, trivial⟩)
  have HX := Lib.hid hC1
  have hC0 := hC2 _ (b0.keep (Chg.refl No _).drew) k0.drew
  clear hC1 hC2 h7 h7' hcell hcl hl hps hrq hy hf hrx b0 k0
  go_enter Tryz.func89, Tryz.ntmps89
  go_wp2_with fail
  refine wp_region_X C (by kernel_rfl) (by kernel_rfl) hC0 ?_
  clear hC0
  refine wpX_val (.pointer (some ⟨W0.heap.size, 2, none⟩)) rfl (by intro W hW; obtain ⟨c0, c1, c2, d0, _⟩ := HCELL.out W hW; go_simp) ?_
  simp only [Act.put, List.setIfInBounds_toArray, List.set_cons_zero, List.set_cons_succ]
  refine wpX_val (.slice ra rq.length rc) rfl (by intro W hW; obtain ⟨c0, c1, c2, d0, _⟩ := HCELL.out W hW; go_simp) ?_
  simp only [Act.put, List.setIfInBounds_toArray, List.set_cons_zero, List.set_cons_succ]
  refine wpX_val (.pointer (some ⟨W0.heap.size, 1, none⟩)) rfl (by intro W hW; obtain ⟨c0, c1, c2, d0, _⟩ := HCELL.out W hW; go_simp) ?_
  simp only [Act.put, List.setIfInBounds_toArray, List.set_cons_zero, List.set_cons_succ]
  refine wpX_val (.slice (some ⟨b, off, none⟩) ps.length cap) rfl (by intro W hW; obtain ⟨c0, c1, c2, d0, _⟩ := HCELL.out W hW; go_simp) ?_
  simp only [Act.put, List.setIfInBounds_toArray, List.set_cons_zero, List.set_cons_succ]
  refine wpX_val (.int .i64 i) rfl (by intro W hW; obtain ⟨c0, c1, c2, d0, _⟩ := HCELL.out W hW; go_simp) ?_
  simp only [Act.put, List.setIfInBounds_toArray, List.set_cons_zero, List.set_cons_succ]
  refine wpX_val (.pointer (some ⟨b, off + i * 7, none⟩)) rfl (by intro W hW; obtain ⟨c0, c1, c2, d0, _⟩ := HCELL.out W hW; go_simp) ?_
  simp only [Act.put, List.setIfInBounds_toArray, List.set_cons_zero, List.set_cons_succ]
  refine wpX_val (.pointer (some ⟨b, off + i * 7, none⟩)) rfl (by intro W hW; obtain ⟨c0, c1, c2, d0, _⟩ := HCELL.out W hW; go_simp) ?_
  simp only [Act.put, List.setIfInBounds_toArray, List.set_cons_zero, List.set_cons_succ]
  refine wpX_val (.int .i64 y.frm) rfl (by intro W hW; obtain ⟨c0, c1, c2, d0, _⟩ := HCELL.out W hW; go_simp) ?_
  simp only [Act.put, List.setIfInBounds_toArray, List.set_cons_zero, List.set_cons_succ]
  refine wpX_val (.slice xa xn xc) rfl (by intro W hW; obtain ⟨c0, c1, c2, d0, _⟩ := HCELL.out W hW; go_simp) ?_
  simp only [Act.put, List.setIfInBounds_toArray, List.set_cons_zero, List.set_cons_succ]
  refine wpX_val (.slice xa xn xc) rfl (by intro W hW; obtain ⟨c0, c1, c2, d0, _⟩ := HCELL.out W hW; go_simp) ?_
  simp only [Act.put, List.setIfInBounds_toArray, List.set_cons_zero, List.set_cons_succ]
  refine wpX_nil (fun W hW => ?_)
  go_wp2_with fail
  go_ret
  exact ⟨rfl, (HX.out W hW).2⟩

set_option maxRecDepth 100000 in
set_option maxHeartbeats 1000000 in
theorem fewest_any (v : Value) (t : To) (i : Nat) (w : World) (h : RT No w v t) (ht : tourB t = true) (hi : i < t.ps.length) :
    Calls Tryz.prog 84 #[v, .int .i64 (i : Int)] w (fun e w' => e = .returned (.int .i64 (fewT t i)) ∧ Chg No w w') := by
  obtain ⟨hfr, hpo, hpg, _⟩ := tour_facts ht hi
  obtain ⟨hsz, _, hl60, hbelow⟩ := pagB_facts hpg
  have hfw := fewN_ok hpg
  obtain ⟨f, hf⟩ : ∃ f : Nat, fewT t i = (f : Int) := ⟨(fewT t i).toNat, by have := hfw.1; unfold fewT; omega⟩
  have hfN : Fewest (t.ps.getD i dPl).ca.size.toNat (partL t i) f := by
    have := hfw.2
    unfold fewT at hf
    rw [hf, Int.toNat_natCast] at this
    exact this
  have hT := h
  obtain ⟨pa0, pn0, pc0, hpr, hpc⟩ := part_at v t i w h hi hfr
  have HPC := Lib.hid hpc
  have hneg : ∀ x ∈ partL t i, 0 ≤ x := fun x hx => (hbelow x hx).1
  have HNEG := Lib.hid hneg
  have HF := Lib.hid hf
  have HFN := Lib.hid hfN
  have HL := Lib.hid hl60
  obtain ⟨L, hL⟩ : ∃ L, partL t i = L := ⟨_, rfl⟩
  rw [hL] at hpr HNEG HFN HL
  clear hpc hneg hf hfN hl60 hbelow hpg hfw hpo hL ht hfr
  rw [HF.out]
  obtain ⟨it, ps, rq⟩ := t
  obtain ⟨pv, rv, rfl, hps, hrq⟩ := h
  simp only at hps hrq hi hsz HFN
  obtain ⟨ra, rc, rfl, _⟩ := id hrq
  obtain ⟨a, cap, rfl, hcap, hmax, hlen, pf, mf, hl, hcl⟩ := id hps
  obtain ⟨b, off, rfl, _, hb, hcell⟩ := hcl (by intro e; simp [e] at hi)
  have h7 := hcell i hi
  obtain ⟨y, hy⟩ : ∃ y, ps.getD i dPl = y := ⟨_, rfl⟩
  rw [hy] at h7 hsz HFN
  obtain ⟨K, hK⟩ : ∃ K : Nat, y.ca.size = (K : Int) := ⟨y.ca.size.toNat, by omega⟩
  have d2 := h7.c2
  rw [hK] at d2 hsz HFN
  have hi0 : (0 : Int) ≤ (i : Int) := Int.natCast_nonneg _
  have hi1 : (i : Int) < (ps.length : Int) := by omega
  have k0 := (Chg.refl No w).alloc (.cells #[.int .i64 it, .slice (some ⟨b, off, none⟩) ps.length cap, .slice ra rq.length rc] 31)
  have b0 := Box3.new w (.int .i64 it) (.slice (some ⟨b, off, none⟩) ps.length cap) (.slice ra rq.length rc) 31
  obtain ⟨C, hC1, hC2⟩ : ∃ C : World → Prop, (∀ W, C W → Box3 W w.heap.size (.int .i64 it) (.slice (some ⟨b, off, none⟩) ps.length cap) (.slice ra rq.length rc) ∧ Chg No w W) ∧
      (∀ W, Box3 W w.heap.size (.int .i64 it) (.slice (some ⟨b, off, none⟩) ps.length cap) (.slice ra rq.length rc) → Chg No w W → C W) := ⟨_, fun _ h => h, fun _ h h' => ⟨h, h'⟩⟩
  have HCELL : Hid (∀ W, C W → W.cell? ⟨w.heap.size, 0, none⟩ = some (.int .i64 it) ∧ W.cell? ⟨w.heap.size, 1, none⟩ = some (.slice (some ⟨b, off, none⟩) ps.length cap) ∧ W.cell? ⟨w.heap.size, 2, none⟩ = some (.slice ra rq.length rc) ∧
      W.cell? ⟨b, off + i * 7 + 2, none⟩ = some (.int .i64 (K : Int)) ∧ True) := Lib.hid (fun W hW => by
    obtain ⟨g1, g2⟩ := hC1 W hW
    exact ⟨g1.c0, g1.c1, g1.c2, (g2.cellD b _ hb (fun e => e)).trans d2, trivial⟩)
  have HK : Hid (∀ W W', C W → Chg No W W' → C W') := Lib.hid (fun W W' hW hk => hC2 W' ((hC1 W hW).1.keep hk) ((hC1 W hW).2.keep hk))
  have HX := Lib.hid hC1
  have hC0 := hC2 _ (b0.keep (Chg.refl No _).drew) k0.drew
  clear hC1 hC2 h7 hcell hcl hl hps hrq hy b0 k0 hT d2 HF
  go_enter Tryz.func84, Tryz.ntmps84
  go_wp2_with fail
  refine wp_region_X C (by kernel_rfl) (by kernel_rfl) hC0 ?_
  clear hC0
  refine wpX_val (.pointer (some ⟨w.heap.size, 1, none⟩)) rfl (by intro W hW; obtain ⟨c0, c1, c2, d2, _⟩ := HCELL.out W hW; go_simp) ?_
  simp only [Act.put, List.setIfInBounds_toArray, List.set_cons_zero, List.set_cons_succ]
  refine wpX_val (.slice (some ⟨b, off, none⟩) ps.length cap) rfl (by intro W hW; obtain ⟨c0, c1, c2, d2, _⟩ := HCELL.out W hW; go_simp) ?_
  simp only [Act.put, List.setIfInBounds_toArray, List.set_cons_zero, List.set_cons_succ]
  refine wpX_val (.int .i64 i) rfl (by intro W hW; obtain ⟨c0, c1, c2, d2, _⟩ := HCELL.out W hW; go_simp) ?_
  simp only [Act.put, List.setIfInBounds_toArray, List.set_cons_zero, List.set_cons_succ]
  refine wpX_val (.pointer (some ⟨b, off + i * 7, none⟩)) rfl (by intro W hW; obtain ⟨c0, c1, c2, d2, _⟩ := HCELL.out W hW; go_simp) ?_
  simp only [Act.put, List.setIfInBounds_toArray, List.set_cons_zero, List.set_cons_succ]
  refine wpX_val (.pointer (some ⟨b, off + i * 7 + 1, none⟩)) rfl (by intro W hW; obtain ⟨c0, c1, c2, d2, _⟩ := HCELL.out W hW; go_simp) ?_
  simp only [Act.put, List.setIfInBounds_toArray, List.set_cons_zero, List.set_cons_succ]
  refine wpX_val (.pointer (some ⟨b, off + i * 7 + 2, none⟩)) rfl (by intro W hW; obtain ⟨c0, c1, c2, d2, _⟩ := HCELL.out W hW; go_simp) ?_
  simp only [Act.put, List.setIfInBounds_toArray, List.set_cons_zero, List.set_cons_succ]
  refine wpX_val (.int .i64 (K : Int)) rfl (by intro W hW; obtain ⟨c0, c1, c2, d2, _⟩ := HCELL.out W hW; go_simp) ?_
  simp only [Act.put, List.setIfInBounds_toArray, List.set_cons_zero, List.set_cons_succ]
  refine wpX_val (.agg #[.int .i64 it, .slice (some ⟨b, off, none⟩) ps.length cap, .slice ra rq.length rc]) rfl (by intro W hW; obtain ⟨c0, c1, c2, d2, _⟩ := HCELL.out W hW; go_simp) ?_
  simp only [Act.put, List.setIfInBounds_toArray, List.set_cons_zero, List.set_cons_succ]
  refine wpX_val (.int .i64 i) rfl (by intro W hW; obtain ⟨c0, c1, c2, d2, _⟩ := HCELL.out W hW; go_simp) ?_
  simp only [Act.put, List.setIfInBounds_toArray, List.set_cons_zero, List.set_cons_succ]
  refine wpX_call (.slice pa0 pn0 pc0) (f := 89) (args := #[.agg #[.int .i64 it, .slice (some ⟨b, off, none⟩) ps.length cap, .slice ra rq.length rc], .int .i64 (i : Int)]) rfl (by intro W hW; go_simp) (fun W hW => (HPC.out W (HX.out W hW).2).mono (fun e w' h => ⟨h.1, HK.out _ _ hW h.2⟩)) ?_
  simp only [Act.put, List.setIfInBounds_toArray, List.set_cons_zero, List.set_cons_succ]
  refine wpX_call (.int .i64 (f : Int)) (f := 98) (args := #[.int .i64 (K : Int), .slice pa0 pn0 pc0]) rfl (by intro W hW; go_simp) (fun W hW => (fewestFaults_any K (by omega) _ L W (hpr.keep (HX.out W hW).2) HNEG.out HL.out f HFN.out).mono (by rintro e w' ⟨_, rfl, rfl, hk⟩; exact ⟨rfl, HK.out _ _ hW hk⟩)) ?_
  simp only [Act.put, List.setIfInBounds_toArray, List.set_cons_zero, List.set_cons_succ]
  refine wpX_val (.int .i64 (f : Int)) rfl (by intro W hW; obtain ⟨c0, c1, c2, d2, _⟩ := HCELL.out W hW; go_simp) ?_
  simp only [Act.put, List.setIfInBounds_toArray, List.set_cons_zero, List.set_cons_succ]
  refine wpX_nil (fun W hW => ?_)
  go_wp2_with fail
  go_ret
  exact ⟨rfl, (HX.out W hW).2⟩

set_option maxRecDepth 100000 in
set_option maxHeartbeats 1000000 in
theorem l12Fewest_any (v : Value) (t : To) (i : Nat) (w : World) (h : RT No w v t) (ht : tourB t = true) (hi : i < t.ps.length) :
    Calls Tryz.prog 83 #[v, .int .i64 (i : Int)] w (fun e w' => e = .returned (.int .i64 (fewT t i)) ∧ Chg No w w') := by
  obtain ⟨hfr, hpo, hpg, _⟩ := tour_facts ht hi
  obtain ⟨hsz, _, hl60, hbelow⟩ := pagB_facts hpg
  have hfw := fewN_ok hpg
  obtain ⟨f, hf⟩ : ∃ f : Nat, fewT t i = (f : Int) := ⟨(fewT t i).toNat, by have := hfw.1; unfold fewT; omega⟩
  have hfN : Fewest (t.ps.getD i dPl).ca.size.toNat (partL t i) f := by
    have := hfw.2
    unfold fewT at hf
    rw [hf, Int.toNat_natCast] at this
    exact this
  have HF : Hid (fewT t i = fewN (t.ps.getD i dPl).ca.size t.items (partL t i)) := Lib.hid rfl
  have HPG := Lib.hid hpg
  unfold partL at HF HPG
  clear hf hfN hl60 hbelow hpg hfw hpo ht
  obtain ⟨it, ps, rq⟩ := t
  obtain ⟨pv, rv, rfl, hps, hrq⟩ := h
  simp only at hps hrq hi hsz HF HPG hfr
  obtain ⟨ra, rc, rfl, _⟩ := id hrq
  obtain ⟨a, cap, rfl, hcap, hmax, hlen, pf, mf, hl, hcl⟩ := id hps
  obtain ⟨b, off, rfl, _, hb, hcell⟩ := hcl (by intro e; simp [e] at hi)
  have h7 := hcell i hi
  obtain ⟨hpj, hmj⟩ := hl i hi
  obtain ⟨y, hy⟩ : ∃ y, ps.getD i dPl = y := ⟨_, rfl⟩
  rw [hy] at h7 hsz HF HPG hfr hpj hmj
  obtain ⟨xs, hx, hrx⟩ := hrq.from y.frm.toNat y.frm (by omega) (by omega)
  obtain ⟨xa, xn, xc, rfl⟩ := hrx.shape
  generalize pf i = pj at hpj h7
  generalize mf i = mj at hmj h7
  obtain ⟨ya, yn, yc, rfl⟩ := hpj.shape
  obtain ⟨za, zn, zc, rfl⟩ := hmj.shape
  obtain ⟨L, hL⟩ : ∃ L, rq.drop y.frm.toNat = L := ⟨_, rfl⟩
  rw [hL] at hrx HF HPG
  rw [HF.out]
  have hi0 : (0 : Int) ≤ (i : Int) := Int.natCast_nonneg _
  have hi1 : (i : Int) < (ps.length : Int) := by omega
  have k0 := (Chg.refl No w).alloc (.cells #[.int .i64 it, .slice (some ⟨b, off, none⟩) ps.length cap, .slice ra rq.length rc] 31)
  have b0 := Box3.new w (.int .i64 it) (.slice (some ⟨b, off, none⟩) ps.length cap) (.slice ra rq.length rc) 31
  have h70 := h7.step k0 hb (fun e => e)
  obtain ⟨g0, g1, g2, g3, g4, g5, g6⟩ := id h70
  obtain ⟨c0, c1, c2, _⟩ := id b0
  go_enter Tryz.func83, Tryz.ntmps83
  go_wp2_with fail
  clear c0 c1 c2 g0 g1 g2 g3 g4 g5 g6
  obtain ⟨W1, hW1⟩ : ∃ W1, w.alloc (.cells #[.int .i64 it, .slice (some ⟨b, off, none⟩) ps.length cap, .slice ra rq.length rc] 31) = W1 := ⟨_, rfl⟩
  have hz1 : W1.heap.size = w.heap.size + 1 := by rw [← hW1]; simp
  rw [hW1] at k0 b0 ⊢
  clear hW1
  have b1 := (Box7.new W1 (.int .i64 y.frm) (.int .i64 y.ca.pol) (.int .i64 y.ca.size) (.slice ya yn yc) (.slice za zn zc) (.int .i64 y.ca.hand) (.int .i64 y.fa) 76).at hz1
  have k1 := (Chg.refl No W1).alloc (.cells #[.int .i64 y.frm, .int .i64 y.ca.pol, .int .i64 y.ca.size, .slice ya yn yc, .slice za zn zc, .int .i64 y.ca.hand, .int .i64 y.fa] 76)
  generalize W1.alloc (.cells #[.int .i64 y.frm, .int .i64 y.ca.pol, .int .i64 y.ca.size, .slice ya yn yc, .slice za zn zc, .int .i64 y.ca.hand, .int .i64 y.fa] 76) = W2 at b1 k1 ⊢
  replace b0 := b0.keep k1
  replace k0 := k0.keep k1
  obtain ⟨C, hC1, hC2⟩ : ∃ C : World → Prop, (∀ W, C W → Box3 W w.heap.size (.int .i64 it) (.slice (some ⟨b, off, none⟩) ps.length cap) (.slice ra rq.length rc) ∧ Box7 W (w.heap.size + 1) (.int .i64 y.frm) (.int .i64 y.ca.pol) (.int .i64 y.ca.size) (.slice ya yn yc) (.slice za zn zc) (.int .i64 y.ca.hand) (.int .i64 y.fa) ∧ Chg No w W) ∧
      (∀ W W', Chg No W W' → Chg No w W → Box3 W w.heap.size (.int .i64 it) (.slice (some ⟨b, off, none⟩) ps.length cap) (.slice ra rq.length rc) → Box7 W (w.heap.size + 1) (.int .i64 y.frm) (.int .i64 y.ca.pol) (.int .i64 y.ca.size) (.slice ya yn yc) (.slice za zn zc) (.int .i64 y.ca.hand) (.int .i64 y.fa) → C W') :=
    ⟨_, fun _ h => h, fun W W' k h1 h2 h3 => ⟨h2.keep k, h3.keep k, h1.keep k⟩⟩
  have HCELL : Hid (∀ W, C W → W.cell? ⟨w.heap.size, 0, none⟩ = some (.int .i64 it) ∧ W.cell? ⟨w.heap.size, 1, none⟩ = some (.slice (some ⟨b, off, none⟩) ps.length cap) ∧ W.cell? ⟨w.heap.size, 2, none⟩ = some (.slice ra rq.length rc) ∧
      W.cell? ⟨w.heap.size + 1, 0, none⟩ = some (.int .i64 y.frm) ∧ W.cell? ⟨w.heap.size + 1, 2, none⟩ = some (.int .i64 y.ca.size) ∧ True) := Lib.hid (fun W hW => by
    obtain ⟨g1, g2, _⟩ := hC1 W hW
    exact ⟨g1.c0, g1.c1, g1.c2, g2.c0, g2.c2, trivial⟩)
  have HK : Hid (∀ W W', C W → Chg No W W' → C W') := Lib.hid (fun W W' hW hk => hC2 W W' hk (hC1 W hW).2.2 (hC1 W hW).1 (hC1 W hW).2.1)
  have HX := Lib.hid (fun W hW => (hC1 W hW).2.2)
  have hC0 := hC2 _ _ (drewNo W2) k0 b0 b1
  clear hC1 hC2 h7 h70 hcell hcl hl hps hy b0 b1 k0 k1 HF hpj hmj
  refine wp_region_X C (by kernel_rfl) (by kernel_rfl) hC0 ?_
  clear hC0
  refine wpX_val (.pointer (some ⟨w.heap.size + 1, 1, none⟩)) rfl (by intro W hW; obtain ⟨c0, c1, c2, d0, d2, _⟩ := HCELL.out W hW; go_simp) ?_
  simp only [Act.put, List.setIfInBounds_toArray, List.set_cons_zero, List.set_cons_succ]
  refine wpX_val (.pointer (some ⟨w.heap.size + 1, 2, none⟩)) rfl (by intro W hW; obtain ⟨c0, c1, c2, d0, d2, _⟩ := HCELL.out W hW; go_simp) ?_
  simp only [Act.put, List.setIfInBounds_toArray, List.set_cons_zero, List.set_cons_succ]
  refine wpX_val (.int .i64 y.ca.size) rfl (by intro W hW; obtain ⟨c0, c1, c2, d0, d2, _⟩ := HCELL.out W hW; go_simp) ?_
  simp only [Act.put, List.setIfInBounds_toArray, List.set_cons_zero, List.set_cons_succ]
  refine wpX_val (.pointer (some ⟨w.heap.size, 0, none⟩)) rfl (by intro W hW; obtain ⟨c0, c1, c2, d0, d2, _⟩ := HCELL.out W hW; go_simp) ?_
  simp only [Act.put, List.setIfInBounds_toArray, List.set_cons_zero, List.set_cons_succ]
  refine wpX_val (.int .i64 it) rfl (by intro W hW; obtain ⟨c0, c1, c2, d0, d2, _⟩ := HCELL.out W hW; go_simp) ?_
  simp only [Act.put, List.setIfInBounds_toArray, List.set_cons_zero, List.set_cons_succ]
  refine wpX_val (.pointer (some ⟨w.heap.size, 2, none⟩)) rfl (by intro W hW; obtain ⟨c0, c1, c2, d0, d2, _⟩ := HCELL.out W hW; go_simp) ?_
  simp only [Act.put, List.setIfInBounds_toArray, List.set_cons_zero, List.set_cons_succ]
  refine wpX_val (.slice ra rq.length rc) rfl (by intro W hW; obtain ⟨c0, c1, c2, d0, d2, _⟩ := HCELL.out W hW; go_simp) ?_
  simp only [Act.put, List.setIfInBounds_toArray, List.set_cons_zero, List.set_cons_succ]
  refine wpX_val (.pointer (some ⟨w.heap.size + 1, 0, none⟩)) rfl (by intro W hW; obtain ⟨c0, c1, c2, d0, d2, _⟩ := HCELL.out W hW; go_simp) ?_
  simp only [Act.put, List.setIfInBounds_toArray, List.set_cons_zero, List.set_cons_succ]
  refine wpX_val (.int .i64 y.frm) rfl (by intro W hW; obtain ⟨c0, c1, c2, d0, d2, _⟩ := HCELL.out W hW; go_simp) ?_
  simp only [Act.put, List.setIfInBounds_toArray, List.set_cons_zero, List.set_cons_succ]
  refine wpX_val (.slice xa xn xc) rfl (by intro W hW; obtain ⟨c0, c1, c2, d0, d2, _⟩ := HCELL.out W hW; go_simp) ?_
  simp only [Act.put, List.setIfInBounds_toArray, List.set_cons_zero, List.set_cons_succ]
  refine wpX_call (.int .i64 (fewN y.ca.size it L)) (f := 123) (args := #[.int .i64 y.ca.size, .int .i64 it, .slice xa xn xc]) rfl (by intro W hW; go_simp) (fun W hW => (l5Opt_any y.ca.size it _ L W (hrx.keep (HX.out W hW)) HPG.out).mono (by rintro e w' ⟨_, rfl, rfl, hk⟩; exact ⟨rfl, HK.out _ _ hW hk⟩)) ?_
  simp only [Act.put, List.setIfInBounds_toArray, List.set_cons_zero, List.set_cons_succ]
  refine wpX_val (.int .i64 (fewN y.ca.size it L)) rfl (by intro W hW; obtain ⟨c0, c1, c2, d0, d2, _⟩ := HCELL.out W hW; go_simp) ?_
  simp only [Act.put, List.setIfInBounds_toArray, List.set_cons_zero, List.set_cons_succ]
  refine wpX_nil (fun W hW => ?_)
  go_wp2_with fail
  go_ret
  exact ⟨rfl, HX.out W hW⟩
end Go.Proofs.YtmfhlojmoehmiaaGreat

/- guarded operations of a region whose order is drawn: taken first, skipped, entered -/
namespace Go.Proofs.YtmfhlojmoehmiaaGreat
open Go.RowKit

section
variable {P : Program} {ops : Array Oper} {Q : Exit → Act → World → Prop} {md : Region.Mode} {S : World → Prop}
/-- an operation that is wanted, taken first -/
theorem wpAnyK_takeG (i : Nat) {k : Nat} {oi : Oper} (v : Value) {f : Nat} {listed : Array Bool} {a : Act} {w : World} (hi : ops[i]? = some oi)
    (hB : (Region.noSelect ops && Region.free md ops listed i && (Region.ready md ops listed).contains i && Region.waitsFor md ops k i && decide (k ≠ i) && !listed.getD k true) = true)
    (hQ : ∀ c a w, Q (.panic c) (a.put oi.dst v) w → Q (.panic c) a w) (hS : S w) (hg : Region.wanted oi (yielded ops a.tmps) = true) (hy : ∀ w, S w → (execOp a.eval oi).run P w = .ok (.value v) w)
    (h : wpAnyK P md ops Q S k f (listed.setIfInBounds i true) (a.put oi.dst v) w) : wpAnyK P md ops Q S k (f + 1) listed a w := by
  simp only [Bool.and_eq_true, Bool.not_eq_true', decide_eq_true_eq] at hB
  obtain ⟨⟨⟨⟨⟨h1, h2⟩, h3⟩, h4⟩, h5⟩, h6⟩ := hB
  exact wpAnyK_first hi (Region.noSelect_spec h1) hQ h4 h5 f listed a w (Region.free_spec hi h2) (by simpa using h3) h6 (.inl ⟨hg, hy⟩) hS h
/-- an operation that is not wanted, skipped first -/
theorem wpAnyK_skipG (i : Nat) {k : Nat} {oi : Oper} {f : Nat} {listed : Array Bool} {a : Act} {w : World} (hi : ops[i]? = some oi)
    (hB : (Region.noSelect ops && Region.free md ops listed i && (Region.ready md ops listed).contains i && decide (k ≠ i)) = true)
    (hQ : ∀ c a w, Q (.panic c) (a.put oi.dst undef) w → Q (.panic c) a w) (hS : S w) (hg : Region.wanted oi (yielded ops a.tmps) = false)
    (h : wpAnyK P md ops Q S k f (listed.setIfInBounds i true) (a.put oi.dst undef) w) : wpAnyK P md ops Q S k (f + 1) listed a w := by
  simp only [Bool.and_eq_true, decide_eq_true_eq] at hB
  obtain ⟨⟨⟨h1, h2⟩, h3⟩, h4⟩ := hB
  exact wpAnyK_first0 hi (Region.noSelect_spec h1) hQ h4 f listed a w (Region.free_spec hi h2) (by simpa using h3) (.inr ⟨hg, rfl⟩) (fun _ => hS) h
/-- one of those that may come up, wanted -/
theorem wpOpG {k i f : Nat} {o : Oper} {listed : Array Bool} {a : Act} {w : World} (ho : ops[i]? = some o) (hg : Region.wanted o (yielded ops a.tmps) = true)
    (h : ∀ K : Act → World → Prop, Hid (∀ a' w', S w' → wpAnyK P md ops Q S k f (listed.setIfInBounds i true) a' w' → K a' w') → Oper.wp P o a w K Q) :
    wpOp P ops Q i (fun a' w' => ((listed.setIfInBounds i true).getD k true = false → S w') ∧ wpAnyK P md ops Q S k f (listed.setIfInBounds i true) a' w') a w := by
  unfold wpOp
  rw [ho]
  show if Region.wanted o (yielded ops a.tmps) = true then _ else _
  rw [if_pos hg]
  refine .inl ?_
  exact h _ (Lib.hid (fun a' w' h1 h2 => ⟨fun _ => h1, h2⟩))
end
theorem ocallR {o : Oper} {a : Act} {K : Act → World → Prop} {Q : Exit → Act → World → Prop} {w : World} {f : FuncId} {args : Array Value} {v : Value} {φ : World → Prop}
    (ho : (execOp a.eval o).run Tryz.prog w = .ok (.enter f args) w) (h : Calls Tryz.prog f args w fun e w' => e = .returned v ∧ φ w') (hk : ∀ w', φ w' → K (a.put o.dst v) w') : Oper.wp Tryz.prog o a w K Q := by
  unfold Oper.wp
  rw [ho]
  refine h.mono (fun e w' hr => ?_)
  obtain ⟨rfl, hp⟩ := hr
  exact hk w' hp
end Go.Proofs.YtmfhlojmoehmiaaGreat

/- RatioOf, both sides -/
namespace Go.Proofs.YtmfhlojmoehmiaaGreat
open Go.RowKit

def okRat (t : To) (i : Int) : Bool := tourB t && hasP t i && !((t.ps.getD i.toNat dPl).frm == (t.reqs.length : Int))
def ratV (t : To) (i : Int) : Fr := if okRat t i then mkFr (t.ps.getD i.toNat dPl).fa (fewT t i.toNat) else ⟨0, 0, false⟩
theorem fewest_pos {k : Nat} {l : List Int} {f : Nat} (h : Fewest k l f) (hl : 0 < l.length) : 1 ≤ f := by
  cases l with
  | nil => simp at hl
  | cons r l =>
    obtain ⟨⟨S1, _, _, _, c1, _, h5⟩, _⟩ := h
    rcases h5 with ⟨h, _⟩ | ⟨_, h⟩
    · exact h.elim
    · omega
theorem rat_facts {t : To} (ht : tourB t = true) {i : Nat} (hi : i < t.ps.length) : (0 ≤ (t.ps.getD i dPl).fa ∧ (t.ps.getD i dPl).fa ≤ 60) ∧ (0 ≤ fewT t i ∧ fewT t i ≤ 60) ∧ ((t.ps.getD i dPl).frm ≠ (t.reqs.length : Int) → 1 ≤ fewT t i) := by
  obtain ⟨h1, h2, h3, h4⟩ := tour_facts ht hi
  obtain ⟨g1, _, g3, _⟩ := pagB_facts h3
  have hfw := fewN_ok h3
  have hlen := placesTo_le (newC (t.ps.getD i dPl).ca.pol (t.ps.getD i dPl).ca.size) (partL t i) (partL t i).length
  have hle : fewT t i ≤ 60 := by
    have := dpM_spec (k := (t.ps.getD i dPl).ca.size.toNat) (n := t.items.toNat) (by omega) (by have := (pagB_facts h3).2.1; omega) ((partL t i).map Int.toNat) 0 (fun x hx => by
      obtain ⟨y, hy, rfl⟩ := List.mem_map.1 hx
      have := (pagB_facts h3).2.2.2 y hy
      omega) (Nat.two_pow_pos _) (by rw [szM_zero]; omega)
    have h5 := this.2.1
    rw [List.length_map] at h5
    unfold fewT fewN
    omega
  refine ⟨⟨by omega, ?_⟩, ⟨hfw.1, hle⟩, fun hne => ?_⟩
  · rw [h4]; unfold places; omega
  · have hl : 0 < (partL t i).length := by unfold partL; rw [List.length_drop]; omega
    have := fewest_pos hfw.2 hl
    unfold fewT; omega

set_option maxRecDepth 100000 in
set_option maxHeartbeats 4000000 in
theorem implRatio_any (v : Value) (t : To) (i : Int) (w : World) (h : RT No w v t) :
    Calls Tryz.prog 35 #[v, .int .i64 i] w (Ret2 fun v0 v1 w' => v0 = .agg #[.int .i64 (ratV t i).num, .int .i64 (ratV t i).den] ∧ v1 = .bool (ratV t i).ok ∧ Chg No w w') := by
  have h0 := h
  obtain ⟨it, ps, rq⟩ := t
  obtain ⟨pv, rv, rfl, hps, hrq⟩ := h
  simp only at hps hrq
  obtain ⟨ra, rc, rfl, _⟩ := id hrq
  obtain ⟨a, cap, rfl, hcap, hmax, hlen, pf, mf, hl, hcl⟩ := id hps
  have hW0 : ∀ W, W = (w.alloc (.cells #[.int .i64 it, .slice a ps.length cap, .slice ra rq.length rc] 31)).alloc (.cells #[.int .i64 0, .int .i64 0] 61) → Chg No w W ∧ Box3 W w.heap.size (.int .i64 it) (.slice a ps.length cap) (.slice ra rq.length rc) ∧ BoxN W (w.heap.size + 1) [.int .i64 0, .int .i64 0] := fun W e => by
    subst e
    have hz : (w.alloc (.cells #[.int .i64 it, .slice a ps.length cap, .slice ra rq.length rc] 31)).heap.size = w.heap.size + 1 := by simp
    have hb := BoxN.new (w.alloc (.cells #[.int .i64 it, .slice a ps.length cap, .slice ra rq.length rc] 31)) #[.int .i64 0, .int .i64 0] 61
    rw [hz] at hb
    exact ⟨((Chg.refl No w).alloc _).alloc _, (Box3.new w _ _ _ _).keep ((Chg.refl No _).alloc _), hb⟩
  have HW0 := Lib.hid hW0
  clear hW0
  cases ht : tourB ⟨it, ps, rq⟩
  · have HV : Hid (ratV ⟨it, ps, rq⟩ i = ⟨0, 0, false⟩) := Lib.hid (by simp [ratV, okRat, ht])
    have HT := Lib.hid ht
    clear ht hl hcl
    go_enter Tryz.func35, Tryz.ntmps35
    go_wp2_with fail
    generalize hWW : (w.alloc _).alloc _ = WW
    obtain ⟨kk, b0, bR⟩ := HW0.out WW hWW.symm
    clear hWW
    refine (IsTournament_any _ ⟨it, ps, rq⟩ WW (h0.keep kk)).mono ?_
    rintro e w1 ⟨_, rfl, rfl, k1⟩
    rw [HT.out]
    replace kk := kk.keep k1
    replace bR := bR.keep k1
    have c00 := bR.c 0 _ rfl
    have c01 := bR.c 1 _ rfl
    have f0 := bR.fr 0
    have f1 := bR.fr 1
    have hl1 := bR.lt
    go_wp2_with fail
    exact bodyPost_ret (v := .tuple #[.agg #[.int .i64 0, .int .i64 0], .bool false]) (by simp [results, Tryz.results35, go_sem, *]) rfl ⟨_, _, rfl, by rw [HV.out], by rw [HV.out], (kk.setCell (p := ⟨w.heap.size + 1, 0, none⟩) (fun h => by simp at h; omega) _).setCell (p := ⟨w.heap.size + 1, 1, none⟩) (fun h => by simp at h; omega) _⟩
  · cases hh : hasP ⟨it, ps, rq⟩ i
    · have HV : Hid (ratV ⟨it, ps, rq⟩ i = ⟨0, 0, false⟩) := Lib.hid (by simp [ratV, okRat, hh])
      have HT := Lib.hid ht
      have HH := Lib.hid hh
      clear ht hh hl hcl
      go_enter Tryz.func35, Tryz.ntmps35
      go_wp2_with fail
      generalize hWW : (w.alloc _).alloc _ = WW
      obtain ⟨kk, b0, bR⟩ := HW0.out WW hWW.symm
      clear hWW
      refine (IsTournament_any _ ⟨it, ps, rq⟩ WW (h0.keep kk)).mono ?_
      rintro e w1 ⟨_, rfl, rfl, k1⟩
      rw [HT.out]
      replace kk := kk.keep k1
      replace bR := bR.keep k1
      obtain ⟨c0, c1, c2, _⟩ := b0.keep k1
      go_wp2_with fail
      refine (isPlayer_any _ ⟨it, ps, rq⟩ i _ (h0.keep kk)).mono ?_
      rintro e w2 ⟨_, rfl, rfl, k2⟩
      rw [HH.out]
      replace kk := kk.keep k2
      replace bR := bR.keep k2
      clear c0 c1 c2
      have c00 := bR.c 0 _ rfl
      have c01 := bR.c 1 _ rfl
      have f0 := bR.fr 0
      have f1 := bR.fr 1
      have hl1 := bR.lt
      go_wp2_with fail
      exact bodyPost_ret (v := .tuple #[.agg #[.int .i64 0, .int .i64 0], .bool false]) (by simp [results, Tryz.results35, go_sem, *]) rfl ⟨_, _, rfl, by rw [HV.out], by rw [HV.out], (kk.setCell (p := ⟨w.heap.size + 1, 0, none⟩) (fun h => by simp at h; omega) _).setCell (p := ⟨w.heap.size + 1, 1, none⟩) (fun h => by simp at h; omega) _⟩
    · have hik : 0 ≤ i ∧ i ≤ (ps.length : Int) - 1 := inB_iff.1 hh
      obtain ⟨k, rfl⟩ : ∃ k : Nat, i = (k : Int) := ⟨i.toNat, by omega⟩
      have hk : k < ps.length := by omega
      obtain ⟨b, off, rfl, _, hb, hcell⟩ := hcl (by intro e; simp [e] at hk)
      have h7 := hcell k hk
      have hfac := rat_facts (t := ⟨it, ps, rq⟩) ht (i := k) hk
      obtain ⟨hfr, _, _, _⟩ := tour_facts (t := ⟨it, ps, rq⟩) ht (i := k) hk
      have hok : okRat ⟨it, ps, rq⟩ (k : Int) = !((ps.getD k dPl).frm == (rq.length : Int)) := by simp only [okRat, ht, hh, Bool.true_and]; rfl
      have hrat : okRat ⟨it, ps, rq⟩ (k : Int) = true → ratV ⟨it, ps, rq⟩ (k : Int) = mkFr (ps.getD k dPl).fa (fewT ⟨it, ps, rq⟩ k) := fun h => by unfold ratV; rw [h]; rfl
      simp only at hfac hfr
      obtain ⟨y, hy⟩ : ∃ y, ps.getD k dPl = y := ⟨_, rfl⟩
      obtain ⟨fw, hfw⟩ : ∃ fw, fewT ⟨it, ps, rq⟩ k = fw := ⟨_, rfl⟩
      rw [hy] at h7 hfac hok hrat hfr
      rw [hfw] at hfac hrat
      have D6 := Lib.hid h7.c6
      have HT := Lib.hid ht
      have HH := Lib.hid hh
      have HFW := Lib.hid hfw
      have HY := Lib.hid hy
      have HOK := Lib.hid hok
      have HRAT := Lib.hid hrat
      obtain ⟨⟨hf1, hf2⟩, ⟨hf3, hf4⟩, hf5⟩ := hfac
      have hk0 : (0 : Int) ≤ (k : Int) := Int.natCast_nonneg _
      have hk1 : (k : Int) < (ps.length : Int) := by omega
      obtain ⟨pa0, pn0, pc0, hpr, hpc⟩ := part_at _ ⟨it, ps, rq⟩ k w h0 hk (by simp only [hy]; exact hfr)
      have hpn : pn0 = rq.length - y.frm.toNat := by
        have := hpr.n.1
        rw [this]; unfold partL; rw [List.length_drop]
        simp only [hy]
      have HPC := Lib.hid hpc
      clear ht hh hok hrat hfw hl hcl h7 hcell hik hy hpc hpr
      by_cases hle : y.frm = (rq.length : Int)
      · have HV : Hid (ratV ⟨it, ps, rq⟩ (k : Int) = ⟨0, 0, false⟩) := Lib.hid (by
          have : okRat ⟨it, ps, rq⟩ (k : Int) = false := by rw [HOK.out, hle]; simp
          unfold ratV; rw [this]; rfl)
        have hpn0 : pn0 = 0 := by omega
        subst hpn0
        clear hpn hle hfr hf5 HRAT
        go_enter Tryz.func35, Tryz.ntmps35
        go_wp2_with fail
        generalize hWW : (w.alloc _).alloc _ = WW
        obtain ⟨kk, b0, bR⟩ := HW0.out WW hWW.symm
        clear hWW
        refine (IsTournament_any _ ⟨it, ps, rq⟩ WW (h0.keep kk)).mono ?_
        rintro e w1 ⟨_, rfl, rfl, k1⟩
        rw [HT.out]
        replace kk := kk.keep k1
        replace bR := bR.keep k1
        replace b0 := b0.keep k1
        obtain ⟨c0, c1, c2, _⟩ := id b0
        go_wp2_with fail
        refine (isPlayer_any _ ⟨it, ps, rq⟩ _ _ (h0.keep kk)).mono ?_
        rintro e w2 ⟨_, rfl, rfl, k2⟩
        rw [HH.out]
        replace kk := kk.keep k2
        replace bR := bR.keep k2
        replace b0 := b0.keep k2
        clear c0 c1 c2
        obtain ⟨c0, c1, c2, _⟩ := id b0
        go_wp2_with fail
        refine (HPC.out w2 kk).mono ?_
        rintro e w3 ⟨rfl, k3⟩
        replace kk := kk.keep k3
        replace bR := bR.keep k3
        clear c0 c1 c2
        have c00 := bR.c 0 _ rfl
        have c01 := bR.c 1 _ rfl
        have f0 := bR.fr 0
        have f1 := bR.fr 1
        have hl1 := bR.lt
        go_wp2_with fail
        exact bodyPost_ret (v := .tuple #[.agg #[.int .i64 0, .int .i64 0], .bool false]) (by simp [results, Tryz.results35, go_sem, *]) rfl ⟨_, _, rfl, by rw [HV.out], by rw [HV.out], (kk.setCell (p := ⟨w.heap.size + 1, 0, none⟩) (fun h => by simp at h; omega) _).setCell (p := ⟨w.heap.size + 1, 1, none⟩) (fun h => by simp at h; omega) _⟩
      · have hf6 := hf5 hle
        have hokt : okRat ⟨it, ps, rq⟩ (k : Int) = true := by rw [HOK.out]; simpa using hle
        have hval := HRAT.out hokt
        obtain ⟨r, hr⟩ : ∃ r, mkFr y.fa fw = r := ⟨_, rfl⟩
        rw [hr] at hval
        have HV := Lib.hid hval
        have HR := Lib.hid hr
        have hpn0 : ¬ ((pn0 : Int) = 0) := by omega
        have hpn1 : ((pn0 : Int) == 0) = false := by rw [beq_eq_false_iff_ne]; exact hpn0
        have hpn2 : (pn0 == 0) = false := by rw [beq_eq_false_iff_ne]; omega
        clear hpn hle hfr hf5 HRAT hokt hval hr
        go_enter Tryz.func35, Tryz.ntmps35
        go_wp2_with fail
        generalize hWW : (w.alloc _).alloc _ = WW
        obtain ⟨kk, b0, bR⟩ := HW0.out WW hWW.symm
        clear hWW
        refine (IsTournament_any _ ⟨it, ps, rq⟩ WW (h0.keep kk)).mono ?_
        rintro e w1 ⟨_, rfl, rfl, k1⟩
        rw [HT.out]
        replace kk := kk.keep k1
        replace bR := bR.keep k1
        replace b0 := b0.keep k1
        obtain ⟨c0, c1, c2, _⟩ := id b0
        go_wp2_with fail
        refine (isPlayer_any _ ⟨it, ps, rq⟩ _ _ (h0.keep kk)).mono ?_
        rintro e w2 ⟨_, rfl, rfl, k2⟩
        rw [HH.out]
        replace kk := kk.keep k2
        replace bR := bR.keep k2
        replace b0 := b0.keep k2
        clear c0 c1 c2
        obtain ⟨c0, c1, c2, _⟩ := id b0
        go_wp2_with fail
        refine (HPC.out w2 kk).mono ?_
        rintro e w3 ⟨rfl, k3⟩
        replace kk := kk.keep k3
        replace bR := bR.keep k3
        replace b0 := b0.keep k3
        clear c0 c1 c2 hpn0
        go_wp2_with fail
        refine wp_region_K (S := fun W => (W.cell? ⟨w.heap.size, 0, none⟩ = some (.int .i64 it) ∧ W.cell? ⟨w.heap.size, 1, none⟩ = some (.slice (some ⟨b, off, none⟩) ps.length cap) ∧ W.cell? ⟨w.heap.size, 2, none⟩ = some (.slice ra rq.length rc)) ∧ W.cell? ⟨b, off + k * 7 + 6, none⟩ = some (.int .i64 y.fa)) (k := 12) (by kernel_rfl) ?_
        replace kk := kk.keep (drewNo _)
        replace b0 := b0.keep (drewNo _)
        replace bR := bR.keep (drewNo _)
        generalize w3.drew = WR at kk b0 bR ⊢
        have hS : (WR.cell? ⟨w.heap.size, 0, none⟩ = some (.int .i64 it) ∧ WR.cell? ⟨w.heap.size, 1, none⟩ = some (.slice (some ⟨b, off, none⟩) ps.length cap) ∧ WR.cell? ⟨w.heap.size, 2, none⟩ = some (.slice ra rq.length rc)) ∧ WR.cell? ⟨b, off + k * 7 + 6, none⟩ = some (.int .i64 y.fa) := ⟨⟨b0.c0, b0.c1, b0.c2⟩, (kk.cellD b _ hb (fun e => e)).trans D6.out⟩
        refine wpAnyK_take0 0 (.pointer (some ⟨w.heap.size, 1, none⟩)) rfl (by kernel_rfl) (fun _ _ _ h => h) hS rfl (by intro w; go_simp) ?_
        simp only [List.getElem_toArray, List.getElem_cons_zero, Act.put, List.setIfInBounds_toArray, List.set_cons_zero, List.set_cons_succ]
        refine wpAnyK_take0 2 (.int .i64 (k : Int)) rfl (by kernel_rfl) (fun _ _ _ h => h) hS rfl (by intro w; go_simp) ?_
        simp only [List.getElem_toArray, List.getElem_cons_succ, List.getElem_cons_zero, Act.put, List.setIfInBounds_toArray, List.set_cons_zero, List.set_cons_succ]
        refine wpAnyK_take 1 (.slice (some ⟨b, off, none⟩) ps.length cap) rfl (by kernel_rfl) (fun _ _ _ h => h) hS rfl (by intro w hSw; go_simp) ?_
        simp only [List.getElem_toArray, List.getElem_cons_succ, List.getElem_cons_zero, Act.put, List.setIfInBounds_toArray, List.set_cons_zero, List.set_cons_succ]
        refine wpAnyK_take0 3 (.pointer (some ⟨b, off + k * 7, none⟩)) rfl (by kernel_rfl) (fun _ _ _ h => h) hS rfl (by intro w; go_simp) ?_
        simp only [List.getElem_toArray, List.getElem_cons_succ, List.getElem_cons_zero, Act.put, List.setIfInBounds_toArray, List.set_cons_zero, List.set_cons_succ]
        refine wpAnyK_take0 4 (.pointer (some ⟨b, off + k * 7 + 6, none⟩)) rfl (by kernel_rfl) (fun _ _ _ h => h) hS rfl (by intro w; go_simp) ?_
        simp only [List.getElem_toArray, List.getElem_cons_succ, List.getElem_cons_zero, Act.put, List.setIfInBounds_toArray, List.set_cons_zero, List.set_cons_succ]
        refine wpAnyK_take 5 (.int .i64 y.fa) rfl (by kernel_rfl) (fun _ _ _ h => h) hS rfl (by intro w hSw; go_simp) ?_
        simp only [List.getElem_toArray, List.getElem_cons_succ, List.getElem_cons_zero, Act.put, List.setIfInBounds_toArray, List.set_cons_zero, List.set_cons_succ]
        refine wpAnyK_take 6 (.agg #[.int .i64 it, .slice (some ⟨b, off, none⟩) ps.length cap, .slice ra rq.length rc]) rfl (by kernel_rfl) (fun _ _ _ h => h) hS rfl (by intro w hSw; go_simp) ?_
        simp only [List.getElem_toArray, List.getElem_cons_succ, List.getElem_cons_zero, Act.put, List.setIfInBounds_toArray, List.set_cons_zero, List.set_cons_succ]
        refine wpAnyK_take0 7 (.int .i64 (k : Int)) rfl (by kernel_rfl) (fun _ _ _ h => h) hS rfl (by intro w; go_simp) ?_
        simp only [List.getElem_toArray, List.getElem_cons_succ, List.getElem_cons_zero, Act.put, List.setIfInBounds_toArray, List.set_cons_zero, List.set_cons_succ]
        refine wpAnyK_1 8 (by kernel_rfl) (wpOpK' rfl rfl ?_)
        intro K hK
        refine ocallR (f := 84) (args := #[.agg #[.int .i64 it, .slice (some ⟨b, off, none⟩) ps.length cap, .slice ra rq.length rc], .int .i64 (k : Int)]) (by go_simp) (fewest_any _ ⟨it, ps, rq⟩ k WR (h0.keep kk) HT.out hk) (fun w8 k8 => hK.out _ _ ⟨⟨(b0.keep k8).c0, (b0.keep k8).c1, (b0.keep k8).c2⟩, ((kk.keep k8).cellD b _ hb (fun e => e)).trans D6.out⟩ ?_)
        rw [HFW.out]
        replace kk := kk.keep k8
        replace b0 := b0.keep k8
        replace bR := bR.keep k8
        clear hK K hS k8
        simp only [List.getElem_toArray, List.getElem_cons_succ, List.getElem_cons_zero, Act.put, List.setIfInBounds_toArray, List.set_cons_zero, List.set_cons_succ]
        refine wpAnyK_1 9 (by kernel_rfl) (wpOpK' rfl rfl ?_)
        intro K hK
        refine ocallR (f := 90) (args := #[.int .i64 y.fa, .int .i64 fw]) (v := .tuple #[.agg #[.int .i64 r.num, .int .i64 r.den], .bool r.ok]) (φ := fun w' => Chg No w8 w') (by go_simp) ((makeFrac_any y.fa fw w8 (by omega) (by omega) (by omega) (by omega)).mono (by rintro e w' ⟨_, _, rfl, rfl, rfl, hk⟩; rw [HR.out]; exact ⟨rfl, hk⟩)) (fun w9 k9 => hK.out _ _ ⟨⟨(b0.keep k9).c0, (b0.keep k9).c1, (b0.keep k9).c2⟩, ((kk.keep k9).cellD b _ hb (fun e => e)).trans D6.out⟩ ?_)
        replace kk := kk.keep k9
        replace b0 := b0.keep k9
        replace bR := bR.keep k9
        clear hK K k9
        simp only [List.getElem_toArray, List.getElem_cons_succ, List.getElem_cons_zero, Act.put, List.setIfInBounds_toArray, List.set_cons_zero, List.set_cons_succ]
        have hS : (w9.cell? ⟨w.heap.size, 0, none⟩ = some (.int .i64 it) ∧ w9.cell? ⟨w.heap.size, 1, none⟩ = some (.slice (some ⟨b, off, none⟩) ps.length cap) ∧ w9.cell? ⟨w.heap.size, 2, none⟩ = some (.slice ra rq.length rc)) ∧ w9.cell? ⟨b, off + k * 7 + 6, none⟩ = some (.int .i64 y.fa) := ⟨⟨b0.c0, b0.c1, b0.c2⟩, (kk.cellD b _ hb (fun e => e)).trans D6.out⟩
        refine wpAnyK_take0 10 (.agg #[.int .i64 r.num, .int .i64 r.den]) rfl (by kernel_rfl) (fun _ _ _ h => h) hS rfl (by intro w; go_simp) ?_
        simp only [List.getElem_toArray, List.getElem_cons_succ, List.getElem_cons_zero, Act.put, List.setIfInBounds_toArray, List.set_cons_zero, List.set_cons_succ]
        refine wpAnyK_take0 11 (.bool r.ok) rfl (by kernel_rfl) (fun _ _ _ h => h) hS rfl (by intro w; go_simp) ?_
        simp only [List.getElem_toArray, List.getElem_cons_succ, List.getElem_cons_zero, Act.put, List.setIfInBounds_toArray, List.set_cons_zero, List.set_cons_succ]
        refine wpAnyK_tail 12 rfl (by kernel_rfl) ?_
        simp only [List.drop_succ_cons, List.drop_zero]
        have c00 := bR.c 0 _ rfl
        have c01 := bR.c 1 _ rfl
        have f0 := bR.fr 0
        have f1 := bR.fr 1
        have hl1 := bR.lt
        go_wp2_with fail
        exact bodyPost_ret (v := .tuple #[.agg #[.int .i64 r.num, .int .i64 r.den], .bool r.ok]) (by simp [results, Tryz.results35, go_sem, *]) rfl ⟨_, _, rfl, by rw [HV.out], by rw [HV.out], (kk.setCell (p := ⟨w.heap.size + 1, 0, none⟩) (fun h => by simp at h; omega) _).setCell (p := ⟨w.heap.size + 1, 1, none⟩) (fun h => by simp at h; omega) _⟩

set_option maxRecDepth 100000 in
set_option maxHeartbeats 4000000 in
theorem specRatio_any (v : Value) (t : To) (i : Int) (w : World) (h : RT No w v t) :
    Calls Tryz.prog 34 #[v, .int .i64 i] w (Ret2 fun v0 v1 w' => v0 = .agg #[.int .i64 (ratV t i).num, .int .i64 (ratV t i).den] ∧ v1 = .bool (ratV t i).ok ∧ Chg No w w') := by
  have h0 := h
  obtain ⟨it, ps, rq⟩ := t
  obtain ⟨pv, rv, rfl, hps, hrq⟩ := h
  simp only at hps hrq
  obtain ⟨ra, rc, rfl, _⟩ := id hrq
  obtain ⟨a, cap, rfl, hcap, hmax, hlen, pf, mf, hl, hcl⟩ := id hps
  have hW0 : ∀ W, W = (w.alloc (.cells #[.int .i64 it, .slice a ps.length cap, .slice ra rq.length rc] 31)).alloc (.cells #[.int .i64 0, .int .i64 0] 61) → Chg No w W ∧ Box3 W w.heap.size (.int .i64 it) (.slice a ps.length cap) (.slice ra rq.length rc) ∧ BoxN W (w.heap.size + 1) [.int .i64 0, .int .i64 0] := fun W e => by
    subst e
    have hz : (w.alloc (.cells #[.int .i64 it, .slice a ps.length cap, .slice ra rq.length rc] 31)).heap.size = w.heap.size + 1 := by simp
    have hb := BoxN.new (w.alloc (.cells #[.int .i64 it, .slice a ps.length cap, .slice ra rq.length rc] 31)) #[.int .i64 0, .int .i64 0] 61
    rw [hz] at hb
    exact ⟨((Chg.refl No w).alloc _).alloc _, (Box3.new w _ _ _ _).keep ((Chg.refl No _).alloc _), hb⟩
  have HW0 := Lib.hid hW0
  clear hW0
  cases ht : tourB ⟨it, ps, rq⟩
  · have HV : Hid (ratV ⟨it, ps, rq⟩ i = ⟨0, 0, false⟩) := Lib.hid (by simp [ratV, okRat, ht])
    have HT := Lib.hid ht
    clear ht hl hcl
    go_enter Tryz.func34, Tryz.ntmps34
    go_wp2_with fail
    generalize hWW : (w.alloc _).alloc _ = WW
    obtain ⟨kk, b0, bR⟩ := HW0.out WW hWW.symm
    clear hWW
    obtain ⟨C, hC1, hC2⟩ : ∃ C : World → Prop, (∀ W, C W → Chg No w W ∧ Box3 W w.heap.size (.int .i64 it) (.slice a ps.length cap) (.slice ra rq.length rc) ∧ BoxN W (w.heap.size + 1) [.int .i64 0, .int .i64 0]) ∧
        (∀ W W', Chg No W W' → Chg No w W → Box3 W w.heap.size (.int .i64 it) (.slice a ps.length cap) (.slice ra rq.length rc) → BoxN W (w.heap.size + 1) [.int .i64 0, .int .i64 0] → C W') :=
      ⟨_, fun _ h => h, fun W W' k h1 h2 h3 => ⟨h1.keep k, h2.keep k, h3.keep k⟩⟩
    have HCELL : Hid (∀ W, C W → W.cell? ⟨w.heap.size, 0, none⟩ = some (.int .i64 it) ∧ W.cell? ⟨w.heap.size, 1, none⟩ = some (.slice a ps.length cap) ∧ W.cell? ⟨w.heap.size, 2, none⟩ = some (.slice ra rq.length rc) ∧  True) := Lib.hid (fun W hW => by
      obtain ⟨g0, g1, _⟩ := hC1 W hW
      exact ⟨g1.c0, g1.c1, g1.c2,  trivial⟩)
    have HK : Hid (∀ W W', C W → Chg No W W' → C W') := Lib.hid (fun W W' hW hk => hC2 W W' hk (hC1 W hW).1 (hC1 W hW).2.1 (hC1 W hW).2.2)
    have HX := Lib.hid hC1
    refine wp_region_X C (by kernel_rfl) (by kernel_rfl) (hC2 _ _ (drewNo WW) kk b0 bR) ?_
    refine wpX_val (.agg #[.int .i64 it, .slice a ps.length cap, .slice ra rq.length rc]) rfl (by intro W hW; obtain ⟨c0, c1, c2, _⟩ := HCELL.out W hW; go_simp) ?_
    simp only [Act.put, List.setIfInBounds_toArray, List.set_cons_zero, List.set_cons_succ]
    refine wpX_call (.bool false) (f := 63) (args := #[.agg #[.int .i64 it, .slice a ps.length cap, .slice ra rq.length rc]]) rfl (by intro W hW; obtain ⟨c0, c1, c2, _⟩ := HCELL.out W hW; go_simp) (fun W hW => (l12Tour_any _ ⟨it, ps, rq⟩ W (h0.keep (HX.out W hW).1)).mono (by rintro e w' ⟨_, rfl, rfl, hk⟩; rw [HT.out]; exact ⟨rfl, HK.out _ _ hW hk⟩)) ?_
    simp only [Act.put, List.setIfInBounds_toArray, List.set_cons_zero, List.set_cons_succ]
    refine wpX_val (.bool (!false)) rfl (by intro W hW; obtain ⟨c0, c1, c2, _⟩ := HCELL.out W hW; go_simp) ?_
    simp only [Act.put, List.setIfInBounds_toArray, List.set_cons_zero, List.set_cons_succ]
    refine wpX_val (.bool (!false)) rfl (by intro W hW; obtain ⟨c0, c1, c2, _⟩ := HCELL.out W hW; go_simp) ?_
    simp only [Act.put, List.setIfInBounds_toArray, List.set_cons_zero, List.set_cons_succ]
    repeat (refine wpX_skip rfl ?_; simp only [Act.put, List.setIfInBounds_toArray, List.set_cons_zero, List.set_cons_succ])
    refine wpX_val (.bool true) rfl (by intro W hW; obtain ⟨c0, c1, c2, _⟩ := HCELL.out W hW; go_simp) ?_
    simp only [Act.put, List.setIfInBounds_toArray, List.set_cons_zero, List.set_cons_succ]
    refine wpX_val (.bool true) rfl (by intro W hW; obtain ⟨c0, c1, c2, _⟩ := HCELL.out W hW; go_simp) ?_
    simp only [Act.put, List.setIfInBounds_toArray, List.set_cons_zero, List.set_cons_succ]
    repeat (refine wpX_skip rfl ?_; simp only [Act.put, List.setIfInBounds_toArray, List.set_cons_zero, List.set_cons_succ])
    refine wpX_val (.bool true) rfl (by intro W hW; obtain ⟨c0, c1, c2, _⟩ := HCELL.out W hW; go_simp) ?_
    simp only [Act.put, List.setIfInBounds_toArray, List.set_cons_zero, List.set_cons_succ]
    refine wpX_nil (fun W hW => ?_)
    obtain ⟨kk, b0, bR⟩ := HX.out W hW
    have c00 := bR.c 0 _ rfl
    have c01 := bR.c 1 _ rfl
    have f0 := bR.fr 0
    have f1 := bR.fr 1
    have hl1 := bR.lt
    go_wp2_with fail
    exact bodyPost_ret (v := .tuple #[.agg #[.int .i64 0, .int .i64 0], .bool false]) (by simp [results, Tryz.results34, go_sem, *]) rfl ⟨_, _, rfl, by rw [HV.out], by rw [HV.out], (kk.setCell (p := ⟨w.heap.size + 1, 0, none⟩) (fun h => by simp at h; omega) _).setCell (p := ⟨w.heap.size + 1, 1, none⟩) (fun h => by simp at h; omega) _⟩
  · cases hh : hasP ⟨it, ps, rq⟩ i
    · have HV : Hid (ratV ⟨it, ps, rq⟩ i = ⟨0, 0, false⟩) := Lib.hid (by simp [ratV, okRat, hh])
      have HT := Lib.hid ht
      have HH := Lib.hid hh
      clear ht hh hl hcl
      go_enter Tryz.func34, Tryz.ntmps34
      go_wp2_with fail
      generalize hWW : (w.alloc _).alloc _ = WW
      obtain ⟨kk, b0, bR⟩ := HW0.out WW hWW.symm
      clear hWW
      obtain ⟨C, hC1, hC2⟩ : ∃ C : World → Prop, (∀ W, C W → Chg No w W ∧ Box3 W w.heap.size (.int .i64 it) (.slice a ps.length cap) (.slice ra rq.length rc) ∧ BoxN W (w.heap.size + 1) [.int .i64 0, .int .i64 0]) ∧
          (∀ W W', Chg No W W' → Chg No w W → Box3 W w.heap.size (.int .i64 it) (.slice a ps.length cap) (.slice ra rq.length rc) → BoxN W (w.heap.size + 1) [.int .i64 0, .int .i64 0] → C W') :=
        ⟨_, fun _ h => h, fun W W' k h1 h2 h3 => ⟨h1.keep k, h2.keep k, h3.keep k⟩⟩
      have HCELL : Hid (∀ W, C W → W.cell? ⟨w.heap.size, 0, none⟩ = some (.int .i64 it) ∧ W.cell? ⟨w.heap.size, 1, none⟩ = some (.slice a ps.length cap) ∧ W.cell? ⟨w.heap.size, 2, none⟩ = some (.slice ra rq.length rc) ∧  True) := Lib.hid (fun W hW => by
        obtain ⟨g0, g1, _⟩ := hC1 W hW
        exact ⟨g1.c0, g1.c1, g1.c2,  trivial⟩)
      have HK : Hid (∀ W W', C W → Chg No W W' → C W') := Lib.hid (fun W W' hW hk => hC2 W W' hk (hC1 W hW).1 (hC1 W hW).2.1 (hC1 W hW).2.2)
      have HX := Lib.hid hC1
      refine wp_region_X C (by kernel_rfl) (by kernel_rfl) (hC2 _ _ (drewNo WW) kk b0 bR) ?_
      refine wpX_val (.agg #[.int .i64 it, .slice a ps.length cap, .slice ra rq.length rc]) rfl (by intro W hW; obtain ⟨c0, c1, c2, _⟩ := HCELL.out W hW; go_simp) ?_
      simp only [Act.put, List.setIfInBounds_toArray, List.set_cons_zero, List.set_cons_succ]
      refine wpX_call (.bool true) (f := 63) (args := #[.agg #[.int .i64 it, .slice a ps.length cap, .slice ra rq.length rc]]) rfl (by intro W hW; obtain ⟨c0, c1, c2, _⟩ := HCELL.out W hW; go_simp) (fun W hW => (l12Tour_any _ ⟨it, ps, rq⟩ W (h0.keep (HX.out W hW).1)).mono (by rintro e w' ⟨_, rfl, rfl, hk⟩; rw [HT.out]; exact ⟨rfl, HK.out _ _ hW hk⟩)) ?_
      simp only [Act.put, List.setIfInBounds_toArray, List.set_cons_zero, List.set_cons_succ]
      refine wpX_val (.bool (!true)) rfl (by intro W hW; obtain ⟨c0, c1, c2, _⟩ := HCELL.out W hW; go_simp) ?_
      simp only [Act.put, List.setIfInBounds_toArray, List.set_cons_zero, List.set_cons_succ]
      refine wpX_val (.bool (!true)) rfl (by intro W hW; obtain ⟨c0, c1, c2, _⟩ := HCELL.out W hW; go_simp) ?_
      simp only [Act.put, List.setIfInBounds_toArray, List.set_cons_zero, List.set_cons_succ]
      refine wpX_val (.agg #[.int .i64 it, .slice a ps.length cap, .slice ra rq.length rc]) rfl (by intro W hW; obtain ⟨c0, c1, c2, _⟩ := HCELL.out W hW; go_simp) ?_
      simp only [Act.put, List.setIfInBounds_toArray, List.set_cons_zero, List.set_cons_succ]
      refine wpX_val (.int .i64 i) rfl (by intro W hW; obtain ⟨c0, c1, c2, _⟩ := HCELL.out W hW; go_simp) ?_
      simp only [Act.put, List.setIfInBounds_toArray, List.set_cons_zero, List.set_cons_succ]
      refine wpX_call (.bool false) (f := 86) (args := #[.agg #[.int .i64 it, .slice a ps.length cap, .slice ra rq.length rc], .int .i64 i]) rfl (by intro W hW; obtain ⟨c0, c1, c2, _⟩ := HCELL.out W hW; go_simp) (fun W hW => (l12Has_any _ ⟨it, ps, rq⟩ i W (h0.keep (HX.out W hW).1)).mono (by rintro e w' ⟨_, rfl, rfl, hk⟩; rw [HH.out]; exact ⟨rfl, HK.out _ _ hW hk⟩)) ?_
      simp only [Act.put, List.setIfInBounds_toArray, List.set_cons_zero, List.set_cons_succ]
      refine wpX_val (.bool (!false)) rfl (by intro W hW; obtain ⟨c0, c1, c2, _⟩ := HCELL.out W hW; go_simp) ?_
      simp only [Act.put, List.setIfInBounds_toArray, List.set_cons_zero, List.set_cons_succ]
      refine wpX_val (.bool (!false)) rfl (by intro W hW; obtain ⟨c0, c1, c2, _⟩ := HCELL.out W hW; go_simp) ?_
      simp only [Act.put, List.setIfInBounds_toArray, List.set_cons_zero, List.set_cons_succ]
      refine wpX_val (.bool (!false)) rfl (by intro W hW; obtain ⟨c0, c1, c2, _⟩ := HCELL.out W hW; go_simp) ?_
      simp only [Act.put, List.setIfInBounds_toArray, List.set_cons_zero, List.set_cons_succ]
      repeat (refine wpX_skip rfl ?_; simp only [Act.put, List.setIfInBounds_toArray, List.set_cons_zero, List.set_cons_succ])
      refine wpX_val (.bool true) rfl (by intro W hW; obtain ⟨c0, c1, c2, _⟩ := HCELL.out W hW; go_simp) ?_
      simp only [Act.put, List.setIfInBounds_toArray, List.set_cons_zero, List.set_cons_succ]
      refine wpX_nil (fun W hW => ?_)
      obtain ⟨kk, b0, bR⟩ := HX.out W hW
      have c00 := bR.c 0 _ rfl
      have c01 := bR.c 1 _ rfl
      have f0 := bR.fr 0
      have f1 := bR.fr 1
      have hl1 := bR.lt
      go_wp2_with fail
      exact bodyPost_ret (v := .tuple #[.agg #[.int .i64 0, .int .i64 0], .bool false]) (by simp [results, Tryz.results34, go_sem, *]) rfl ⟨_, _, rfl, by rw [HV.out], by rw [HV.out], (kk.setCell (p := ⟨w.heap.size + 1, 0, none⟩) (fun h => by simp at h; omega) _).setCell (p := ⟨w.heap.size + 1, 1, none⟩) (fun h => by simp at h; omega) _⟩
    · have hik : 0 ≤ i ∧ i ≤ (ps.length : Int) - 1 := inB_iff.1 hh
      obtain ⟨k, rfl⟩ : ∃ k : Nat, i = (k : Int) := ⟨i.toNat, by omega⟩
      have hk : k < ps.length := by omega
      obtain ⟨b, off, rfl, _, hb, hcell⟩ := hcl (by intro e; simp [e] at hk)
      have h7 := hcell k hk
      have hfac := rat_facts (t := ⟨it, ps, rq⟩) ht (i := k) hk
      obtain ⟨hfr, _, _, _⟩ := tour_facts (t := ⟨it, ps, rq⟩) ht (i := k) hk
      have hok : okRat ⟨it, ps, rq⟩ (k : Int) = !((ps.getD k dPl).frm == (rq.length : Int)) := by simp only [okRat, ht, hh, Bool.true_and]; rfl
      have hrat : okRat ⟨it, ps, rq⟩ (k : Int) = true → ratV ⟨it, ps, rq⟩ (k : Int) = mkFr (ps.getD k dPl).fa (fewT ⟨it, ps, rq⟩ k) := fun h => by unfold ratV; rw [h]; rfl
      simp only at hfac hfr
      obtain ⟨y, hy⟩ : ∃ y, ps.getD k dPl = y := ⟨_, rfl⟩
      obtain ⟨fw, hfw⟩ : ∃ fw, fewT ⟨it, ps, rq⟩ k = fw := ⟨_, rfl⟩
      rw [hy] at h7 hfac hok hrat hfr
      rw [hfw] at hfac hrat
      have D6 := Lib.hid h7.c6
      have HT := Lib.hid ht
      have HH := Lib.hid hh
      have HFW := Lib.hid hfw
      have HY := Lib.hid hy
      have HOK := Lib.hid hok
      have HRAT := Lib.hid hrat
      obtain ⟨⟨hf1, hf2⟩, ⟨hf3, hf4⟩, hf5⟩ := hfac
      have hk0 : (0 : Int) ≤ (k : Int) := Int.natCast_nonneg _
      have hk1 : (k : Int) < (ps.length : Int) := by omega
      have D0 := Lib.hid h7.c0
      clear ht hh hok hrat hfw hl hcl h7 hcell hik hy
      have go : ∀ eqb : Bool, (y.frm == (rq.length : Int)) = eqb → Calls Tryz.prog 34 #[.agg #[.int .i64 it, .slice (some ⟨b, off, none⟩) ps.length cap, .slice ra rq.length rc], .int .i64 (k : Int)] w (Ret2 fun v0 v1 w' => v0 = .agg #[.int .i64 (ratV ⟨it, ps, rq⟩ (k : Int)).num, .int .i64 (ratV ⟨it, ps, rq⟩ (k : Int)).den] ∧ v1 = .bool (ratV ⟨it, ps, rq⟩ (k : Int)).ok ∧ Chg No w w') := fun eqb heqb => by
        have HEQB := Lib.hid heqb
        go_enter Tryz.func34, Tryz.ntmps34
        go_wp2_with fail
        generalize hWW : (w.alloc _).alloc _ = WW
        obtain ⟨kk, b0, bR⟩ := HW0.out WW hWW.symm
        clear hWW
        obtain ⟨C, hC1, hC2⟩ : ∃ C : World → Prop, (∀ W, C W → Chg No w W ∧ Box3 W w.heap.size (.int .i64 it) (.slice (some ⟨b, off, none⟩) ps.length cap) (.slice ra rq.length rc) ∧ BoxN W (w.heap.size + 1) [.int .i64 0, .int .i64 0]) ∧
            (∀ W W', Chg No W W' → Chg No w W → Box3 W w.heap.size (.int .i64 it) (.slice (some ⟨b, off, none⟩) ps.length cap) (.slice ra rq.length rc) → BoxN W (w.heap.size + 1) [.int .i64 0, .int .i64 0] → C W') :=
          ⟨_, fun _ h => h, fun W W' k h1 h2 h3 => ⟨h1.keep k, h2.keep k, h3.keep k⟩⟩
        have HCELL : Hid (∀ W, C W → W.cell? ⟨w.heap.size, 0, none⟩ = some (.int .i64 it) ∧ W.cell? ⟨w.heap.size, 1, none⟩ = some (.slice (some ⟨b, off, none⟩) ps.length cap) ∧ W.cell? ⟨w.heap.size, 2, none⟩ = some (.slice ra rq.length rc) ∧ W.cell? ⟨b, off + k * 7, none⟩ = some (.int .i64 y.frm) ∧  True) := Lib.hid (fun W hW => by
          obtain ⟨g0, g1, _⟩ := hC1 W hW
          exact ⟨g1.c0, g1.c1, g1.c2, (g0.cellD b _ hb (fun e => e)).trans D0.out,  trivial⟩)
        have HK : Hid (∀ W W', C W → Chg No W W' → C W') := Lib.hid (fun W W' hW hk => hC2 W W' hk (hC1 W hW).1 (hC1 W hW).2.1 (hC1 W hW).2.2)
        have HX := Lib.hid hC1
        refine wp_region_X C (by kernel_rfl) (by kernel_rfl) (hC2 _ _ (drewNo WW) kk b0 bR) ?_
        refine wpX_val (.agg #[.int .i64 it, .slice (some ⟨b, off, none⟩) ps.length cap, .slice ra rq.length rc]) rfl (by intro W hW; obtain ⟨c0, c1, c2, d0, _⟩ := HCELL.out W hW; go_simp) ?_
        simp only [Act.put, List.setIfInBounds_toArray, List.set_cons_zero, List.set_cons_succ]
        refine wpX_call (.bool true) (f := 63) (args := #[.agg #[.int .i64 it, .slice (some ⟨b, off, none⟩) ps.length cap, .slice ra rq.length rc]]) rfl (by intro W hW; obtain ⟨c0, c1, c2, _⟩ := HCELL.out W hW; go_simp) (fun W hW => (l12Tour_any _ ⟨it, ps, rq⟩ W (h0.keep (HX.out W hW).1)).mono (by rintro e w' ⟨_, rfl, rfl, hk⟩; rw [HT.out]; exact ⟨rfl, HK.out _ _ hW hk⟩)) ?_
        simp only [Act.put, List.setIfInBounds_toArray, List.set_cons_zero, List.set_cons_succ]
        refine wpX_val (.bool (!true)) rfl (by intro W hW; obtain ⟨c0, c1, c2, d0, _⟩ := HCELL.out W hW; go_simp) ?_
        simp only [Act.put, List.setIfInBounds_toArray, List.set_cons_zero, List.set_cons_succ]
        refine wpX_val (.bool (!true)) rfl (by intro W hW; obtain ⟨c0, c1, c2, d0, _⟩ := HCELL.out W hW; go_simp) ?_
        simp only [Act.put, List.setIfInBounds_toArray, List.set_cons_zero, List.set_cons_succ]
        refine wpX_val (.agg #[.int .i64 it, .slice (some ⟨b, off, none⟩) ps.length cap, .slice ra rq.length rc]) rfl (by intro W hW; obtain ⟨c0, c1, c2, d0, _⟩ := HCELL.out W hW; go_simp) ?_
        simp only [Act.put, List.setIfInBounds_toArray, List.set_cons_zero, List.set_cons_succ]
        refine wpX_val (.int .i64 (k : Int)) rfl (by intro W hW; obtain ⟨c0, c1, c2, d0, _⟩ := HCELL.out W hW; go_simp) ?_
        simp only [Act.put, List.setIfInBounds_toArray, List.set_cons_zero, List.set_cons_succ]
        refine wpX_call (.bool true) (f := 86) (args := #[.agg #[.int .i64 it, .slice (some ⟨b, off, none⟩) ps.length cap, .slice ra rq.length rc], .int .i64 (k : Int)]) rfl (by intro W hW; obtain ⟨c0, c1, c2, _⟩ := HCELL.out W hW; go_simp) (fun W hW => (l12Has_any _ ⟨it, ps, rq⟩ (k : Int) W (h0.keep (HX.out W hW).1)).mono (by rintro e w' ⟨_, rfl, rfl, hk⟩; rw [HH.out]; exact ⟨rfl, HK.out _ _ hW hk⟩)) ?_
        simp only [Act.put, List.setIfInBounds_toArray, List.set_cons_zero, List.set_cons_succ]
        refine wpX_val (.bool (!true)) rfl (by intro W hW; obtain ⟨c0, c1, c2, d0, _⟩ := HCELL.out W hW; go_simp) ?_
        simp only [Act.put, List.setIfInBounds_toArray, List.set_cons_zero, List.set_cons_succ]
        refine wpX_val (.bool (!true)) rfl (by intro W hW; obtain ⟨c0, c1, c2, d0, _⟩ := HCELL.out W hW; go_simp) ?_
        simp only [Act.put, List.setIfInBounds_toArray, List.set_cons_zero, List.set_cons_succ]
        refine wpX_val (.bool (!true)) rfl (by intro W hW; obtain ⟨c0, c1, c2, d0, _⟩ := HCELL.out W hW; go_simp) ?_
        simp only [Act.put, List.setIfInBounds_toArray, List.set_cons_zero, List.set_cons_succ]
        refine wpX_val (.pointer (some ⟨w.heap.size, 1, none⟩)) rfl (by intro W hW; obtain ⟨c0, c1, c2, d0, _⟩ := HCELL.out W hW; go_simp) ?_
        simp only [Act.put, List.setIfInBounds_toArray, List.set_cons_zero, List.set_cons_succ]
        refine wpX_val (.slice (some ⟨b, off, none⟩) ps.length cap) rfl (by intro W hW; obtain ⟨c0, c1, c2, d0, _⟩ := HCELL.out W hW; go_simp) ?_
        simp only [Act.put, List.setIfInBounds_toArray, List.set_cons_zero, List.set_cons_succ]
        refine wpX_val (.int .i64 (k : Int)) rfl (by intro W hW; obtain ⟨c0, c1, c2, d0, _⟩ := HCELL.out W hW; go_simp) ?_
        simp only [Act.put, List.setIfInBounds_toArray, List.set_cons_zero, List.set_cons_succ]
        refine wpX_val (.pointer (some ⟨b, off + k * 7, none⟩)) rfl (by intro W hW; obtain ⟨c0, c1, c2, d0, _⟩ := HCELL.out W hW; go_simp) ?_
        simp only [Act.put, List.setIfInBounds_toArray, List.set_cons_zero, List.set_cons_succ]
        refine wpX_val (.pointer (some ⟨b, off + k * 7, none⟩)) rfl (by intro W hW; obtain ⟨c0, c1, c2, d0, _⟩ := HCELL.out W hW; go_simp) ?_
        simp only [Act.put, List.setIfInBounds_toArray, List.set_cons_zero, List.set_cons_succ]
        refine wpX_val (.int .i64 y.frm) rfl (by intro W hW; obtain ⟨c0, c1, c2, d0, _⟩ := HCELL.out W hW; go_simp) ?_
        simp only [Act.put, List.setIfInBounds_toArray, List.set_cons_zero, List.set_cons_succ]
        refine wpX_val (.pointer (some ⟨w.heap.size, 2, none⟩)) rfl (by intro W hW; obtain ⟨c0, c1, c2, d0, _⟩ := HCELL.out W hW; go_simp) ?_
        simp only [Act.put, List.setIfInBounds_toArray, List.set_cons_zero, List.set_cons_succ]
        refine wpX_val (.slice ra rq.length rc) rfl (by intro W hW; obtain ⟨c0, c1, c2, d0, _⟩ := HCELL.out W hW; go_simp) ?_
        simp only [Act.put, List.setIfInBounds_toArray, List.set_cons_zero, List.set_cons_succ]
        refine wpX_val (.int .i64 (rq.length : Int)) rfl (by intro W hW; obtain ⟨c0, c1, c2, d0, _⟩ := HCELL.out W hW; go_simp) ?_
        simp only [Act.put, List.setIfInBounds_toArray, List.set_cons_zero, List.set_cons_succ]
        refine wpX_val (.bool eqb) rfl (by intro W hW; obtain ⟨c0, c1, c2, d0, _⟩ := HCELL.out W hW; go_simp) ?_
        simp only [Act.put, List.setIfInBounds_toArray, List.set_cons_zero, List.set_cons_succ]
        refine wpX_val (.bool eqb) rfl (by intro W hW; obtain ⟨c0, c1, c2, d0, _⟩ := HCELL.out W hW; go_simp) ?_
        simp only [Act.put, List.setIfInBounds_toArray, List.set_cons_zero, List.set_cons_succ]
        cases eqb
        · have hle : y.frm ≠ (rq.length : Int) := by simpa using heqb
          have hf6 := hf5 hle
          have hokt : okRat ⟨it, ps, rq⟩ (k : Int) = true := by rw [HOK.out]; simpa using hle
          have hval := HRAT.out hokt
          obtain ⟨r, hr⟩ : ∃ r, mkFr y.fa fw = r := ⟨_, rfl⟩
          rw [hr] at hval
          have HV := Lib.hid hval
          have HR := Lib.hid hr
          clear hle hfr hf5 HRAT hokt hval hr heqb
          refine wpX_nil (fun W hW => ?_)
          obtain ⟨kk, b0, bR⟩ := HX.out W hW
          go_wp2_with fail
          refine wp_region_K (S := fun W => (W.cell? ⟨w.heap.size, 0, none⟩ = some (.int .i64 it) ∧ W.cell? ⟨w.heap.size, 1, none⟩ = some (.slice (some ⟨b, off, none⟩) ps.length cap) ∧ W.cell? ⟨w.heap.size, 2, none⟩ = some (.slice ra rq.length rc)) ∧ W.cell? ⟨b, off + k * 7 + 6, none⟩ = some (.int .i64 y.fa)) (k := 12) (by kernel_rfl) ?_
          replace kk := kk.keep (drewNo _)
          replace b0 := b0.keep (drewNo _)
          replace bR := bR.keep (drewNo _)
          generalize W.drew = WR at kk b0 bR ⊢
          have hS : (WR.cell? ⟨w.heap.size, 0, none⟩ = some (.int .i64 it) ∧ WR.cell? ⟨w.heap.size, 1, none⟩ = some (.slice (some ⟨b, off, none⟩) ps.length cap) ∧ WR.cell? ⟨w.heap.size, 2, none⟩ = some (.slice ra rq.length rc)) ∧ WR.cell? ⟨b, off + k * 7 + 6, none⟩ = some (.int .i64 y.fa) := ⟨⟨b0.c0, b0.c1, b0.c2⟩, (kk.cellD b _ hb (fun e => e)).trans D6.out⟩
          refine wpAnyK_take0 0 (.pointer (some ⟨w.heap.size, 1, none⟩)) rfl (by kernel_rfl) (fun _ _ _ h => h) hS rfl (by intro w; go_simp) ?_
          simp only [List.getElem_toArray, List.getElem_cons_zero, Act.put, List.setIfInBounds_toArray, List.set_cons_zero, List.set_cons_succ]
          refine wpAnyK_take0 2 (.int .i64 (k : Int)) rfl (by kernel_rfl) (fun _ _ _ h => h) hS rfl (by intro w; go_simp) ?_
          simp only [List.getElem_toArray, List.getElem_cons_succ, List.getElem_cons_zero, Act.put, List.setIfInBounds_toArray, List.set_cons_zero, List.set_cons_succ]
          refine wpAnyK_take 1 (.slice (some ⟨b, off, none⟩) ps.length cap) rfl (by kernel_rfl) (fun _ _ _ h => h) hS rfl (by intro w hSw; go_simp) ?_
          simp only [List.getElem_toArray, List.getElem_cons_succ, List.getElem_cons_zero, Act.put, List.setIfInBounds_toArray, List.set_cons_zero, List.set_cons_succ]
          refine wpAnyK_take0 3 (.pointer (some ⟨b, off + k * 7, none⟩)) rfl (by kernel_rfl) (fun _ _ _ h => h) hS rfl (by intro w; go_simp) ?_
          simp only [List.getElem_toArray, List.getElem_cons_succ, List.getElem_cons_zero, Act.put, List.setIfInBounds_toArray, List.set_cons_zero, List.set_cons_succ]
          refine wpAnyK_take0 4 (.pointer (some ⟨b, off + k * 7 + 6, none⟩)) rfl (by kernel_rfl) (fun _ _ _ h => h) hS rfl (by intro w; go_simp) ?_
          simp only [List.getElem_toArray, List.getElem_cons_succ, List.getElem_cons_zero, Act.put, List.setIfInBounds_toArray, List.set_cons_zero, List.set_cons_succ]
          refine wpAnyK_take 5 (.int .i64 y.fa) rfl (by kernel_rfl) (fun _ _ _ h => h) hS rfl (by intro w hSw; go_simp) ?_
          simp only [List.getElem_toArray, List.getElem_cons_succ, List.getElem_cons_zero, Act.put, List.setIfInBounds_toArray, List.set_cons_zero, List.set_cons_succ]
          refine wpAnyK_take 6 (.agg #[.int .i64 it, .slice (some ⟨b, off, none⟩) ps.length cap, .slice ra rq.length rc]) rfl (by kernel_rfl) (fun _ _ _ h => h) hS rfl (by intro w hSw; go_simp) ?_
          simp only [List.getElem_toArray, List.getElem_cons_succ, List.getElem_cons_zero, Act.put, List.setIfInBounds_toArray, List.set_cons_zero, List.set_cons_succ]
          refine wpAnyK_take0 7 (.int .i64 (k : Int)) rfl (by kernel_rfl) (fun _ _ _ h => h) hS rfl (by intro w; go_simp) ?_
          simp only [List.getElem_toArray, List.getElem_cons_succ, List.getElem_cons_zero, Act.put, List.setIfInBounds_toArray, List.set_cons_zero, List.set_cons_succ]
          refine wpAnyK_1 8 (by kernel_rfl) (wpOpK' rfl rfl ?_)
          intro K hK
          refine ocallR (f := 83) (args := #[.agg #[.int .i64 it, .slice (some ⟨b, off, none⟩) ps.length cap, .slice ra rq.length rc], .int .i64 (k : Int)]) (by go_simp) (l12Fewest_any _ ⟨it, ps, rq⟩ k WR (h0.keep kk) HT.out hk) (fun w8 k8 => hK.out _ _ ⟨⟨(b0.keep k8).c0, (b0.keep k8).c1, (b0.keep k8).c2⟩, ((kk.keep k8).cellD b _ hb (fun e => e)).trans D6.out⟩ ?_)
          rw [HFW.out]
          replace kk := kk.keep k8
          replace b0 := b0.keep k8
          replace bR := bR.keep k8
          clear hK K hS k8
          simp only [List.getElem_toArray, List.getElem_cons_succ, List.getElem_cons_zero, Act.put, List.setIfInBounds_toArray, List.set_cons_zero, List.set_cons_succ]
          refine wpAnyK_1 9 (by kernel_rfl) (wpOpK' rfl rfl ?_)
          intro K hK
          refine ocallR (f := 87) (args := #[.int .i64 y.fa, .int .i64 fw]) (v := .tuple #[.agg #[.int .i64 r.num, .int .i64 r.den], .bool r.ok]) (φ := fun w' => Chg No w8 w') (by go_simp) ((l2Make_any y.fa fw w8 (by omega) (by omega) (by omega) (by omega)).mono (by rintro e w' ⟨_, _, rfl, rfl, rfl, hk⟩; rw [HR.out]; exact ⟨rfl, hk⟩)) (fun w9 k9 => hK.out _ _ ⟨⟨(b0.keep k9).c0, (b0.keep k9).c1, (b0.keep k9).c2⟩, ((kk.keep k9).cellD b _ hb (fun e => e)).trans D6.out⟩ ?_)
          replace kk := kk.keep k9
          replace b0 := b0.keep k9
          replace bR := bR.keep k9
          clear hK K k9
          simp only [List.getElem_toArray, List.getElem_cons_succ, List.getElem_cons_zero, Act.put, List.setIfInBounds_toArray, List.set_cons_zero, List.set_cons_succ]
          have hS : (w9.cell? ⟨w.heap.size, 0, none⟩ = some (.int .i64 it) ∧ w9.cell? ⟨w.heap.size, 1, none⟩ = some (.slice (some ⟨b, off, none⟩) ps.length cap) ∧ w9.cell? ⟨w.heap.size, 2, none⟩ = some (.slice ra rq.length rc)) ∧ w9.cell? ⟨b, off + k * 7 + 6, none⟩ = some (.int .i64 y.fa) := ⟨⟨b0.c0, b0.c1, b0.c2⟩, (kk.cellD b _ hb (fun e => e)).trans D6.out⟩
          refine wpAnyK_take0 10 (.agg #[.int .i64 r.num, .int .i64 r.den]) rfl (by kernel_rfl) (fun _ _ _ h => h) hS rfl (by intro w; go_simp) ?_
          simp only [List.getElem_toArray, List.getElem_cons_succ, List.getElem_cons_zero, Act.put, List.setIfInBounds_toArray, List.set_cons_zero, List.set_cons_succ]
          refine wpAnyK_take0 11 (.bool r.ok) rfl (by kernel_rfl) (fun _ _ _ h => h) hS rfl (by intro w; go_simp) ?_
          simp only [List.getElem_toArray, List.getElem_cons_succ, List.getElem_cons_zero, Act.put, List.setIfInBounds_toArray, List.set_cons_zero, List.set_cons_succ]
          refine wpAnyK_tail 12 rfl (by kernel_rfl) ?_
          simp only [List.drop_succ_cons, List.drop_zero]
          have c00 := bR.c 0 _ rfl
          have c01 := bR.c 1 _ rfl
          have f0 := bR.fr 0
          have f1 := bR.fr 1
          have hl1 := bR.lt
          go_wp2_with fail
          exact bodyPost_ret (v := .tuple #[.agg #[.int .i64 r.num, .int .i64 r.den], .bool r.ok]) (by simp [results, Tryz.results34, go_sem, *]) rfl ⟨_, _, rfl, by rw [HV.out], by rw [HV.out], (kk.setCell (p := ⟨w.heap.size + 1, 0, none⟩) (fun h => by simp at h; omega) _).setCell (p := ⟨w.heap.size + 1, 1, none⟩) (fun h => by simp at h; omega) _⟩
        · have hle : y.frm = (rq.length : Int) := by simpa using heqb
          have HV : Hid (ratV ⟨it, ps, rq⟩ (k : Int) = ⟨0, 0, false⟩) := Lib.hid (by
            have : okRat ⟨it, ps, rq⟩ (k : Int) = false := by rw [HOK.out, hle]; simp
            unfold ratV; rw [this]; rfl)
          clear hle hfr hf5 HRAT heqb
          refine wpX_nil (fun W hW => ?_)
          obtain ⟨kk, b0, bR⟩ := HX.out W hW
          have c00 := bR.c 0 _ rfl
          have c01 := bR.c 1 _ rfl
          have f0 := bR.fr 0
          have f1 := bR.fr 1
          have hl1 := bR.lt
          go_wp2_with fail
          exact bodyPost_ret (v := .tuple #[.agg #[.int .i64 0, .int .i64 0], .bool false]) (by simp [results, Tryz.results34, go_sem, *]) rfl ⟨_, _, rfl, by rw [HV.out], by rw [HV.out], (kk.setCell (p := ⟨w.heap.size + 1, 0, none⟩) (fun h => by simp at h; omega) _).setCell (p := ⟨w.heap.size + 1, 1, none⟩) (fun h => by simp at h; omega) _⟩
      exact go _ rfl
end Go.Proofs.YtmfhlojmoehmiaaGreat

/- AccountOf, both sides -/
namespace Go.Proofs.YtmfhlojmoehmiaaGreat
open Go.RowKit

theorem elA2 : El 54 80 (.agg #[.int .i64 0, .int .i64 0]) 2 16 := El.mk' Tryz.underlying54 (by kernel_rfl) rfl (by omega)
/-- the account's numbers, of the first j Players -/
def accL (t : To) (j : Nat) : List Int := (List.range j).flatMap fun i => [(t.ps.getD i dPl).fa, fewT t i]
theorem accL_succ (t : To) (j : Nat) : (accL t (j + 1)).map (Value.int .i64) = (accL t j).map (Value.int .i64) ++ [.int .i64 (t.ps.getD j dPl).fa, .int .i64 (fewT t j)] := by
  unfold accL
  rw [List.range_succ, List.flatMap_append]
  simp
theorem accL_len (t : To) (j : Nat) : (accL t j).length = j * 2 := by
  induction j with
  | zero => rfl
  | succ j ih =>
    have h := congrArg List.length (accL_succ t j)
    simp only [List.length_map, List.length_append, List.length_cons, List.length_nil] at h
    omega
def accN (t : To) : Nat := if tourB t then t.ps.length else 0

set_option maxRecDepth 100000 in
set_option maxHeartbeats 4000000 in
theorem specAccount_any (v : Value) (t : To) (w : World) (h : RT No w v t) :
    Calls Tryz.prog 29 #[v] w (Ret2 fun v0 v1 w' => v1 = .bool (tourB t) ∧ OS 80 2 w.heap.size w' v0 (accN t) ((accL t (accN t)).map (Value.int .i64)) ∧ Chg No w w') := by
  have h0 := h
  obtain ⟨it, ps, rq⟩ := t
  obtain ⟨pv, rv, rfl, hps, hrq⟩ := h
  simp only at hps hrq
  obtain ⟨ra, rc, rfl, _⟩ := id hrq
  obtain ⟨a, cap, rfl, hcap, hmax, hlen, pf, mf, hl, hcl⟩ := id hps
  obtain ⟨W0, hW0⟩ : ∃ W0, (w.alloc (.cells #[.int .i64 it, .slice a ps.length cap, .slice ra rq.length rc] 31)) = W0 := ⟨_, rfl⟩
  have k0 : Chg No w W0 := hW0 ▸ (Chg.refl No w).alloc _
  have b0 : Box3 W0 w.heap.size (.int .i64 it) (.slice a ps.length cap) (.slice ra rq.length rc) := hW0 ▸ Box3.new w _ _ _ 31
  have hz0 : W0.heap.size = w.heap.size + 1 := by rw [← hW0]; simp
  have HC := Lib.hid hcl
  have HW0 := Lib.hid hW0
  have hO := OS.zero (E := 80) (sz := 2) (base := w.heap.size + 1) (w := W0) (by omega)
  have k1 := k0.alloc (.cells #[] 80)
  have b1 := b0.keep ((Chg.refl No W0).alloc (.cells #[] 80))
  obtain ⟨c0, c1, c2, _⟩ := id b1
  clear hl hcl hW0
  go_enter Tryz.func29, Tryz.ntmps29
  go_wp2_with fail
  rw [HW0.out]
  refine (l12Tour_any _ ⟨it, ps, rq⟩ _ (h0.keep k1)).mono ?_
  rintro e w1 ⟨_, rfl, rfl, k2⟩
  replace k1 := k1.keep k2
  replace b1 := b1.keep k2
  replace hO := hO.keep k2
  clear c0 c1 c2 b0 k0 k2
  rw [hz0] at hO
  cases ht : tourB ⟨it, ps, rq⟩
  · have hn : accN ⟨it, ps, rq⟩ = 0 := by simp [accN, ht]
    have HN := Lib.hid hn
    have HT := Lib.hid ht
    clear hn ht
    go_wp2_with fail
    exact bodyPost_ret (v := .tuple #[.slice (some ⟨w.heap.size + 1, 0, none⟩) 0 0, .bool false]) (by simp [results, Tryz.results29, go_sem]) rfl ⟨_, _, rfl, by rw [HT.out], by rw [HN.out]; exact hO.weak (by omega), k1⟩
  · have hn : accN ⟨it, ps, rq⟩ = ps.length := by simp [accN, ht]
    have HN := Lib.hid hn
    have HT := Lib.hid ht
    have hfac := fun j (hj : j < ps.length) => rat_facts (t := ⟨it, ps, rq⟩) ht (i := j) hj
    have HF := Lib.hid hfac
    clear hn ht hfac
    go_wp2_with fail
    go_loopw [4, 5] (fun o z wr => ∃ j : Nat, j ≤ ps.length ∧ z = .int .i64 (j : Int) ∧ OS 80 2 (w.heap.size + 1) wr o j ((accL ⟨it, ps, rq⟩ j).map (Value.int .i64)) ∧ Box3 wr w.heap.size (.int .i64 it) (.slice a ps.length cap) (.slice ra rq.length rc) ∧ Chg No w wr) (fun _ z _ => ps.length - (intOf z).toNat)
    case atStart => exact ⟨0, Nat.zero_le _, rfl, hO, b1, k1⟩
    case round =>
      clear hO b1 k1
      obtain ⟨j, hj, rfl, hO, b0, kk⟩ := hrel
      obtain ⟨oa, oc, rfl, _⟩ := hO.view
      obtain ⟨c0, c1, c2, _⟩ := id b0
      have hj0 : (0 : Int) ≤ (j : Int) := Int.natCast_nonneg _
      by_cases hlt : j < ps.length
      · obtain ⟨b, off, rfl, _, hb, hcell⟩ := HC.out (by intro e; simp [e] at hlt)
        have h7 := hcell j hlt
        have hsn := accL_succ ⟨it, ps, rq⟩ j
        simp only at hsn
        obtain ⟨y, hy⟩ : ∃ y, ps.getD j dPl = y := ⟨_, rfl⟩
        obtain ⟨fw, hfw⟩ : ∃ fw, fewT ⟨it, ps, rq⟩ j = fw := ⟨_, rfl⟩
        rw [hy] at h7 hsn
        rw [hfw] at hsn
        have D6 := Lib.hid h7.c6
        have HFW := Lib.hid hfw
        have HSN := Lib.hid hsn
        have hj1 : (j : Int) < (ps.length : Int) := by omega
        have hwj : IntKind.i64.wrap ((j : Int) + 1) = (j : Int) + 1 := IntWalk.i64_in _ (by omega)
        have hlo := hO.len
        clear h7 hcell hy hfw hsn
        go_wp2_with fail
        clear c0 c1 c2
        refine wp_region_K (S := fun W => (W.cell? ⟨w.heap.size, 0, none⟩ = some (.int .i64 it) ∧ W.cell? ⟨w.heap.size, 1, none⟩ = some (.slice (some ⟨b, off, none⟩) ps.length cap) ∧ W.cell? ⟨w.heap.size, 2, none⟩ = some (.slice ra rq.length rc)) ∧ W.cell? ⟨b, off + j * 7 + 6, none⟩ = some (.int .i64 y.fa)) (k := 10) (by kernel_rfl) ?_
        replace kk := kk.keep (drewNo _)
        replace b0 := b0.keep (drewNo _)
        replace hO := hO.keep (drewNo _)
        generalize wr.drew = WR at kk b0 hO ⊢
        have hS : (WR.cell? ⟨w.heap.size, 0, none⟩ = some (.int .i64 it) ∧ WR.cell? ⟨w.heap.size, 1, none⟩ = some (.slice (some ⟨b, off, none⟩) ps.length cap) ∧ WR.cell? ⟨w.heap.size, 2, none⟩ = some (.slice ra rq.length rc)) ∧ WR.cell? ⟨b, off + j * 7 + 6, none⟩ = some (.int .i64 y.fa) := ⟨⟨b0.c0, b0.c1, b0.c2⟩, (kk.cellD b _ hb (fun e => e)).trans D6.out⟩
        refine wpAnyK_take0 0 (.slice oa j oc) rfl (by kernel_rfl) (fun _ _ _ h => h) hS rfl (by intro w; go_simp) ?_
        simp only [List.getElem_toArray, List.getElem_cons_zero, Act.put, List.setIfInBounds_toArray, List.set_cons_zero, List.set_cons_succ]
        refine wpAnyK_take0 1 (.pointer (some ⟨w.heap.size, 1, none⟩)) rfl (by kernel_rfl) (fun _ _ _ h => h) hS rfl (by intro w; go_simp) ?_
        simp only [List.getElem_toArray, List.getElem_cons_succ, List.getElem_cons_zero, Act.put, List.setIfInBounds_toArray, List.set_cons_zero, List.set_cons_succ]
        refine wpAnyK_take0 3 (.int .i64 (j : Int)) rfl (by kernel_rfl) (fun _ _ _ h => h) hS rfl (by intro w; go_simp) ?_
        simp only [List.getElem_toArray, List.getElem_cons_succ, List.getElem_cons_zero, Act.put, List.setIfInBounds_toArray, List.set_cons_zero, List.set_cons_succ]
        refine wpAnyK_take0 8 (.int .i64 (j : Int)) rfl (by kernel_rfl) (fun _ _ _ h => h) hS rfl (by intro w; go_simp) ?_
        simp only [List.getElem_toArray, List.getElem_cons_succ, List.getElem_cons_zero, Act.put, List.setIfInBounds_toArray, List.set_cons_zero, List.set_cons_succ]
        refine wpAnyK_2 2 7 (by kernel_rfl) (wpOpK' rfl rfl ?_) (wpOpK' rfl rfl ?_)
        · skip
          intro K hK
          obtain ⟨⟨c0, c1, c2⟩, d6⟩ := id hS
          unfold Oper.wp execOp
          go_simp
          refine hK.out _ _ hS ?_
          clear hK K c0 c1 c2 d6
          simp only [List.setIfInBounds_toArray, List.set_cons_zero, List.set_cons_succ]
          refine wpAnyK_take0 4 (.pointer (some ⟨b, off + j * 7, none⟩)) rfl (by kernel_rfl) (fun _ _ _ h => h) hS rfl (by intro w; go_simp) ?_
          simp only [List.getElem_toArray, List.getElem_cons_succ, List.getElem_cons_zero, Act.put, List.setIfInBounds_toArray, List.set_cons_zero, List.set_cons_succ]
          refine wpAnyK_take0 5 (.pointer (some ⟨b, off + j * 7 + 6, none⟩)) rfl (by kernel_rfl) (fun _ _ _ h => h) hS rfl (by intro w; go_simp) ?_
          simp only [List.getElem_toArray, List.getElem_cons_succ, List.getElem_cons_zero, Act.put, List.setIfInBounds_toArray, List.set_cons_zero, List.set_cons_succ]
          refine wpAnyK_take 6 (.int .i64 y.fa) rfl (by kernel_rfl) (fun _ _ _ h => h) hS rfl (by intro w hSw; go_simp) ?_
          simp only [List.getElem_toArray, List.getElem_cons_succ, List.getElem_cons_zero, Act.put, List.setIfInBounds_toArray, List.set_cons_zero, List.set_cons_succ]
          refine wpAnyK_1 7 (by kernel_rfl) (wpOpK' rfl rfl ?_)
          intro K hK
          obtain ⟨⟨c0, c1, c2⟩, d6⟩ := id hS
          unfold Oper.wp execOp
          go_simp
          refine hK.out _ _ hS ?_
          clear hK K c0 c1 c2 d6
          simp only [List.setIfInBounds_toArray, List.set_cons_zero, List.set_cons_succ]
          refine wpAnyK_1 9 (by kernel_rfl) (wpOpK' rfl rfl ?_)
          intro K hK
          refine ocallR (f := 83) (args := #[.agg #[.int .i64 it, .slice (some ⟨b, off, none⟩) ps.length cap, .slice ra rq.length rc], .int .i64 (j : Int)]) (by go_simp) (l12Fewest_any _ ⟨it, ps, rq⟩ j WR (h0.keep kk) HT.out hlt) (fun w8 k8 => hK.out _ _ ⟨⟨(b0.keep k8).c0, (b0.keep k8).c1, (b0.keep k8).c2⟩, ((kk.keep k8).cellD b _ hb (fun e => e)).trans D6.out⟩ ?_)
          rw [HFW.out]
          replace kk := kk.keep k8
          replace b0 := b0.keep k8
          replace hO := hO.keep k8
          clear hK K hS k8
          have hS : (w8.cell? ⟨w.heap.size, 0, none⟩ = some (.int .i64 it) ∧ w8.cell? ⟨w.heap.size, 1, none⟩ = some (.slice (some ⟨b, off, none⟩) ps.length cap) ∧ w8.cell? ⟨w.heap.size, 2, none⟩ = some (.slice ra rq.length rc)) ∧ w8.cell? ⟨b, off + j * 7 + 6, none⟩ = some (.int .i64 y.fa) := ⟨⟨b0.c0, b0.c1, b0.c2⟩, (kk.cellD b _ hb (fun e => e)).trans D6.out⟩
          simp only [List.getElem_toArray, List.getElem_cons_succ, List.getElem_cons_zero, Act.put, List.setIfInBounds_toArray, List.set_cons_zero, List.set_cons_succ]
          refine wpAnyK_tail 10 rfl (by kernel_rfl) ?_
          simp only [List.drop_succ_cons, List.drop_zero]
          clear hS
          have hlt8 := b0.lt
          go_wp2_with (at_builtin; refine wappS1 elA2 (by omega) rfl (.tmp 18) (.tmp 29) rfl hO rfl (by simp [Value.oneCell']) rfl rfl (by omega) (by omega) ?_)
          intro v' wN o2 k2 _
          have bN := b0.step k2 (fun hq => by have := (hO.lt _ hq).1; omega)
          have kN := chg_ownS kk k2 hO (by omega)
          obtain ⟨na, nc, rfl, _⟩ := o2.view
          have HN2 := Lib.hid o2
          have HKN := Lib.hid (And.intro bN kN)
          clear o2 bN kN k2 hO kk b0
          go_wp2_with fail
          go_round
          case measure => simp [intOf]; omega
          case rel => exact ⟨j + 1, by omega, by go_num, by rw [HSN.out]; exact HN2.out, HKN.out.1, HKN.out.2⟩
        · skip
          intro K hK
          obtain ⟨⟨c0, c1, c2⟩, d6⟩ := id hS
          unfold Oper.wp execOp
          go_simp
          refine hK.out _ _ hS ?_
          clear hK K c0 c1 c2 d6
          simp only [List.setIfInBounds_toArray, List.set_cons_zero, List.set_cons_succ]
          refine wpAnyK_2 2 9 (by kernel_rfl) (wpOpK' rfl rfl ?_) (wpOpK' rfl rfl ?_)
          · skip
            intro K hK
            obtain ⟨⟨c0, c1, c2⟩, d6⟩ := id hS
            unfold Oper.wp execOp
            go_simp
            refine hK.out _ _ hS ?_
            clear hK K c0 c1 c2 d6
            simp only [List.setIfInBounds_toArray, List.set_cons_zero, List.set_cons_succ]
            refine wpAnyK_take0 4 (.pointer (some ⟨b, off + j * 7, none⟩)) rfl (by kernel_rfl) (fun _ _ _ h => h) hS rfl (by intro w; go_simp) ?_
            simp only [List.getElem_toArray, List.getElem_cons_succ, List.getElem_cons_zero, Act.put, List.setIfInBounds_toArray, List.set_cons_zero, List.set_cons_succ]
            refine wpAnyK_take0 5 (.pointer (some ⟨b, off + j * 7 + 6, none⟩)) rfl (by kernel_rfl) (fun _ _ _ h => h) hS rfl (by intro w; go_simp) ?_
            simp only [List.getElem_toArray, List.getElem_cons_succ, List.getElem_cons_zero, Act.put, List.setIfInBounds_toArray, List.set_cons_zero, List.set_cons_succ]
            refine wpAnyK_take 6 (.int .i64 y.fa) rfl (by kernel_rfl) (fun _ _ _ h => h) hS rfl (by intro w hSw; go_simp) ?_
            simp only [List.getElem_toArray, List.getElem_cons_succ, List.getElem_cons_zero, Act.put, List.setIfInBounds_toArray, List.set_cons_zero, List.set_cons_succ]
            refine wpAnyK_1 9 (by kernel_rfl) (wpOpK' rfl rfl ?_)
            intro K hK
            refine ocallR (f := 83) (args := #[.agg #[.int .i64 it, .slice (some ⟨b, off, none⟩) ps.length cap, .slice ra rq.length rc], .int .i64 (j : Int)]) (by go_simp) (l12Fewest_any _ ⟨it, ps, rq⟩ j WR (h0.keep kk) HT.out hlt) (fun w8 k8 => hK.out _ _ ⟨⟨(b0.keep k8).c0, (b0.keep k8).c1, (b0.keep k8).c2⟩, ((kk.keep k8).cellD b _ hb (fun e => e)).trans D6.out⟩ ?_)
            rw [HFW.out]
            replace kk := kk.keep k8
            replace b0 := b0.keep k8
            replace hO := hO.keep k8
            clear hK K hS k8
            have hS : (w8.cell? ⟨w.heap.size, 0, none⟩ = some (.int .i64 it) ∧ w8.cell? ⟨w.heap.size, 1, none⟩ = some (.slice (some ⟨b, off, none⟩) ps.length cap) ∧ w8.cell? ⟨w.heap.size, 2, none⟩ = some (.slice ra rq.length rc)) ∧ w8.cell? ⟨b, off + j * 7 + 6, none⟩ = some (.int .i64 y.fa) := ⟨⟨b0.c0, b0.c1, b0.c2⟩, (kk.cellD b _ hb (fun e => e)).trans D6.out⟩
            simp only [List.getElem_toArray, List.getElem_cons_succ, List.getElem_cons_zero, Act.put, List.setIfInBounds_toArray, List.set_cons_zero, List.set_cons_succ]
            refine wpAnyK_tail 10 rfl (by kernel_rfl) ?_
            simp only [List.drop_succ_cons, List.drop_zero]
            clear hS
            have hlt8 := b0.lt
            go_wp2_with (at_builtin; refine wappS1 elA2 (by omega) rfl (.tmp 18) (.tmp 29) rfl hO rfl (by simp [Value.oneCell']) rfl rfl (by omega) (by omega) ?_)
            intro v' wN o2 k2 _
            have bN := b0.step k2 (fun hq => by have := (hO.lt _ hq).1; omega)
            have kN := chg_ownS kk k2 hO (by omega)
            obtain ⟨na, nc, rfl, _⟩ := o2.view
            have HN2 := Lib.hid o2
            have HKN := Lib.hid (And.intro bN kN)
            clear o2 bN kN k2 hO kk b0
            go_wp2_with fail
            go_round
            case measure => simp [intOf]; omega
            case rel => exact ⟨j + 1, by omega, by go_num, by rw [HSN.out]; exact HN2.out, HKN.out.1, HKN.out.2⟩
          · skip
            intro K hK
            refine ocallR (f := 83) (args := #[.agg #[.int .i64 it, .slice (some ⟨b, off, none⟩) ps.length cap, .slice ra rq.length rc], .int .i64 (j : Int)]) (by go_simp) (l12Fewest_any _ ⟨it, ps, rq⟩ j WR (h0.keep kk) HT.out hlt) (fun w8 k8 => hK.out _ _ ⟨⟨(b0.keep k8).c0, (b0.keep k8).c1, (b0.keep k8).c2⟩, ((kk.keep k8).cellD b _ hb (fun e => e)).trans D6.out⟩ ?_)
            rw [HFW.out]
            replace kk := kk.keep k8
            replace b0 := b0.keep k8
            replace hO := hO.keep k8
            clear hK K hS k8
            have hS : (w8.cell? ⟨w.heap.size, 0, none⟩ = some (.int .i64 it) ∧ w8.cell? ⟨w.heap.size, 1, none⟩ = some (.slice (some ⟨b, off, none⟩) ps.length cap) ∧ w8.cell? ⟨w.heap.size, 2, none⟩ = some (.slice ra rq.length rc)) ∧ w8.cell? ⟨b, off + j * 7 + 6, none⟩ = some (.int .i64 y.fa) := ⟨⟨b0.c0, b0.c1, b0.c2⟩, (kk.cellD b _ hb (fun e => e)).trans D6.out⟩
            simp only [List.getElem_toArray, List.getElem_cons_succ, List.getElem_cons_zero, Act.put, List.setIfInBounds_toArray, List.set_cons_zero, List.set_cons_succ]
            refine wpAnyK_1 2 (by kernel_rfl) (wpOpK' rfl rfl ?_)
            intro K hK
            obtain ⟨⟨c0, c1, c2⟩, d6⟩ := id hS
            unfold Oper.wp execOp
            go_simp
            refine hK.out _ _ hS ?_
            clear hK K c0 c1 c2 d6
            simp only [List.setIfInBounds_toArray, List.set_cons_zero, List.set_cons_succ]
            refine wpAnyK_take0 4 (.pointer (some ⟨b, off + j * 7, none⟩)) rfl (by kernel_rfl) (fun _ _ _ h => h) hS rfl (by intro w; go_simp) ?_
            simp only [List.getElem_toArray, List.getElem_cons_succ, List.getElem_cons_zero, Act.put, List.setIfInBounds_toArray, List.set_cons_zero, List.set_cons_succ]
            refine wpAnyK_take0 5 (.pointer (some ⟨b, off + j * 7 + 6, none⟩)) rfl (by kernel_rfl) (fun _ _ _ h => h) hS rfl (by intro w; go_simp) ?_
            simp only [List.getElem_toArray, List.getElem_cons_succ, List.getElem_cons_zero, Act.put, List.setIfInBounds_toArray, List.set_cons_zero, List.set_cons_succ]
            refine wpAnyK_take 6 (.int .i64 y.fa) rfl (by kernel_rfl) (fun _ _ _ h => h) hS rfl (by intro w hSw; go_simp) ?_
            simp only [List.getElem_toArray, List.getElem_cons_succ, List.getElem_cons_zero, Act.put, List.setIfInBounds_toArray, List.set_cons_zero, List.set_cons_succ]
            refine wpAnyK_tail 10 rfl (by kernel_rfl) ?_
            simp only [List.drop_succ_cons, List.drop_zero]
            clear hS
            have hlt8 := b0.lt
            go_wp2_with (at_builtin; refine wappS1 elA2 (by omega) rfl (.tmp 18) (.tmp 29) rfl hO rfl (by simp [Value.oneCell']) rfl rfl (by omega) (by omega) ?_)
            intro v' wN o2 k2 _
            have bN := b0.step k2 (fun hq => by have := (hO.lt _ hq).1; omega)
            have kN := chg_ownS kk k2 hO (by omega)
            obtain ⟨na, nc, rfl, _⟩ := o2.view
            have HN2 := Lib.hid o2
            have HKN := Lib.hid (And.intro bN kN)
            clear o2 bN kN k2 hO kk b0
            go_wp2_with fail
            go_round
            case measure => simp [intOf]; omega
            case rel => exact ⟨j + 1, by omega, by go_num, by rw [HSN.out]; exact HN2.out, HKN.out.1, HKN.out.2⟩
      · have hje : j = ps.length := by omega
        subst hje
        go_wp2_with fail
        exact bodyPost_ret (v := .tuple #[.slice oa ps.length oc, .bool true]) (by simp [results, Tryz.results29, go_sem]) rfl ⟨_, _, rfl, by rw [HT.out], by rw [HN.out]; exact hO.weak (by omega), kk⟩

set_option maxRecDepth 100000 in
set_option maxHeartbeats 4000000 in
theorem implAccount_any (v : Value) (t : To) (w : World) (h : RT No w v t) :
    Calls Tryz.prog 30 #[v] w (Ret2 fun v0 v1 w' => v1 = .bool (tourB t) ∧ OS 80 2 w.heap.size w' v0 (accN t) ((accL t (accN t)).map (Value.int .i64)) ∧ Chg No w w') := by
  have h0 := h
  obtain ⟨it, ps, rq⟩ := t
  obtain ⟨pv, rv, rfl, hps, hrq⟩ := h
  simp only at hps hrq
  obtain ⟨ra, rc, rfl, _⟩ := id hrq
  obtain ⟨a, cap, rfl, hcap, hmax, hlen, pf, mf, hl, hcl⟩ := id hps
  obtain ⟨W0, hW0⟩ : ∃ W0, (w.alloc (.cells #[.int .i64 it, .slice a ps.length cap, .slice ra rq.length rc] 31)) = W0 := ⟨_, rfl⟩
  have k0 : Chg No w W0 := hW0 ▸ (Chg.refl No w).alloc _
  have b0 : Box3 W0 w.heap.size (.int .i64 it) (.slice a ps.length cap) (.slice ra rq.length rc) := hW0 ▸ Box3.new w _ _ _ 31
  have HC := Lib.hid hcl
  have HL := Lib.hid hl
  have HW0 := Lib.hid hW0
  obtain ⟨c0, c1, c2, _⟩ := id b0
  clear hl hcl hW0
  go_enter Tryz.func30, Tryz.ntmps30
  go_wp2_with fail
  rw [HW0.out]
  refine (IsTournament_any _ ⟨it, ps, rq⟩ _ (h0.keep k0)).mono ?_
  rintro e w1 ⟨_, rfl, rfl, k2⟩
  have k1 := k0.keep k2
  have b1 := b0.keep k2
  clear c0 c1 c2 b0 k0 k2
  cases ht : tourB ⟨it, ps, rq⟩
  · have hn : accN ⟨it, ps, rq⟩ = 0 := by simp [accN, ht]
    have HN := Lib.hid hn
    have HT := Lib.hid ht
    clear hn ht
    go_wp2_with fail
    exact bodyPost_ret (v := .tuple #[.slice none 0 0, .bool false]) (by simp [results, Tryz.results30, go_sem]) rfl ⟨_, _, rfl, by rw [HT.out], by rw [HN.out]; exact OS.nil _ _ _ _, k1⟩
  · have hn : accN ⟨it, ps, rq⟩ = ps.length := by simp [accN, ht]
    have HN := Lib.hid hn
    have HT := Lib.hid ht
    have hfac := fun j (hj : j < ps.length) => rat_facts (t := ⟨it, ps, rq⟩) ht (i := j) hj
    have HF := Lib.hid hfac
    clear hn ht hfac
    have hl1 := b1.lt
    have hO := OS.zero (E := 80) (sz := 2) (base := w.heap.size + 1) (w := w1) (by omega)
    replace k1 := k1.alloc (.cells #[] 80)
    replace b1 := b1.keep ((Chg.refl No w1).alloc (.cells #[] 80))
    obtain ⟨c0, c1, c2, _⟩ := id b1
    go_wp2_with fail
    clear c0 c1 c2
    go_loopw [4, 14] (fun o z wr => ∃ j : Nat, j ≤ ps.length ∧ z = .int .i64 (j : Int) ∧ OS 80 2 (w.heap.size + 1) wr o j ((accL ⟨it, ps, rq⟩ j).map (Value.int .i64)) ∧ Box3 wr w.heap.size (.int .i64 it) (.slice a ps.length cap) (.slice ra rq.length rc) ∧ Chg No w wr) (fun _ z _ => ps.length - (intOf z).toNat)
    case atStart => exact ⟨0, Nat.zero_le _, rfl, hO, b1, k1⟩
    case round =>
      clear hO b1 k1
      obtain ⟨j, hj, rfl, hO, b0, kk⟩ := hrel
      obtain ⟨oa, oc, rfl, _⟩ := hO.view
      have hj0 : (0 : Int) ≤ (j : Int) := Int.natCast_nonneg _
      by_cases hlt : j < ps.length
      · obtain ⟨b, off, rfl, _, hb, hcell⟩ := HC.out (by intro e; simp [e] at hlt)
        have h7 := (hcell j hlt).step kk hb (fun e => e)
        obtain ⟨hpj, hmj⟩ := HL.out j hlt
        have hsn := accL_succ ⟨it, ps, rq⟩ j
        simp only at hsn
        obtain ⟨y, hy⟩ : ∃ y, ps.getD j dPl = y := ⟨_, rfl⟩
        obtain ⟨fw, hfw⟩ : ∃ fw, fewT ⟨it, ps, rq⟩ j = fw := ⟨_, rfl⟩
        rw [hy] at h7 hsn hpj hmj
        rw [hfw] at hsn
        generalize pf j = pj at hpj h7
        generalize mf j = mj at hmj h7
        obtain ⟨ya, yn, yc, rfl⟩ := hpj.shape
        obtain ⟨za, zn, zc, rfl⟩ := hmj.shape
        have HFW := Lib.hid hfw
        have HSN := Lib.hid hsn
        have hj1 : (j : Int) < (ps.length : Int) := by omega
        have hwj : IntKind.i64.wrap ((j : Int) + 1) = (j : Int) + 1 := IntWalk.i64_in _ (by omega)
        have hlo := hO.len
        obtain ⟨g0, g1, g2, g3, g4, g5, g6⟩ := id h7
        clear h7 hcell hy hfw hsn hpj hmj
        go_wp2_with fail
        clear g0 g1 g2 g3 g4 g5 g6
        have bp := Box7.new wr (.int .i64 y.frm) (.int .i64 y.ca.pol) (.int .i64 y.ca.size) (.slice ya yn yc) (.slice za zn zc) (.int .i64 y.ca.hand) (.int .i64 y.fa) 76
        have kp := (Chg.refl No wr).alloc (.cells #[.int .i64 y.frm, .int .i64 y.ca.pol, .int .i64 y.ca.size, .slice ya yn yc, .slice za zn zc, .int .i64 y.ca.hand, .int .i64 y.fa] 76)
        obtain ⟨B, hB⟩ : ∃ B, wr.heap.size = B := ⟨_, rfl⟩
        rw [hB] at bp
        have hBw : w.heap.size < B := hB ▸ b0.lt
        have hBo : ∀ q, own (.slice oa j oc) q → q < B := fun q hq => hB ▸ (hO.lt q hq).2
        generalize wr.alloc (.cells #[.int .i64 y.frm, .int .i64 y.ca.pol, .int .i64 y.ca.size, .slice ya yn yc, .slice za zn zc, .int .i64 y.ca.hand, .int .i64 y.fa] 76) = W2 at bp kp ⊢
        replace kk := kk.keep kp
        replace b0 := b0.keep kp
        replace hO := hO.keep kp
        rw [hB]
        clear kp hB
        refine wp_region_K (S := fun W => (W.cell? ⟨w.heap.size, 0, none⟩ = some (.int .i64 it) ∧ W.cell? ⟨w.heap.size, 1, none⟩ = some (.slice (some ⟨b, off, none⟩) ps.length cap) ∧ W.cell? ⟨w.heap.size, 2, none⟩ = some (.slice ra rq.length rc)) ∧ W.cell? ⟨B, 6, none⟩ = some (.int .i64 y.fa)) (k := 6) (by kernel_rfl) ?_
        replace kk := kk.keep (drewNo _)
        replace b0 := b0.keep (drewNo _)
        replace hO := hO.keep (drewNo _)
        replace bp := bp.keep (drewNo _)
        generalize W2.drew = WR at kk b0 hO bp ⊢
        have hS : (WR.cell? ⟨w.heap.size, 0, none⟩ = some (.int .i64 it) ∧ WR.cell? ⟨w.heap.size, 1, none⟩ = some (.slice (some ⟨b, off, none⟩) ps.length cap) ∧ WR.cell? ⟨w.heap.size, 2, none⟩ = some (.slice ra rq.length rc)) ∧ WR.cell? ⟨B, 6, none⟩ = some (.int .i64 y.fa) := ⟨⟨b0.c0, b0.c1, b0.c2⟩, bp.c6⟩
        refine wpAnyK_take0 0 (.slice oa j oc) rfl (by kernel_rfl) (fun _ _ _ h => h) hS rfl (by intro w; go_simp) ?_
        simp only [List.getElem_toArray, List.getElem_cons_zero, Act.put, List.setIfInBounds_toArray, List.set_cons_zero, List.set_cons_succ]
        refine wpAnyK_take0 1 (.pointer (some ⟨B, 6, none⟩)) rfl (by kernel_rfl) (fun _ _ _ h => h) hS rfl (by intro w; go_simp) ?_
        simp only [List.getElem_toArray, List.getElem_cons_succ, List.getElem_cons_zero, Act.put, List.setIfInBounds_toArray, List.set_cons_zero, List.set_cons_succ]
        refine wpAnyK_take 2 (.int .i64 y.fa) rfl (by kernel_rfl) (fun _ _ _ h => h) hS rfl (by intro w hSw; go_simp) ?_
        simp only [List.getElem_toArray, List.getElem_cons_succ, List.getElem_cons_zero, Act.put, List.setIfInBounds_toArray, List.set_cons_zero, List.set_cons_succ]
        refine wpAnyK_take0 4 (.int .i64 (j : Int)) rfl (by kernel_rfl) (fun _ _ _ h => h) hS rfl (by intro w; go_simp) ?_
        simp only [List.getElem_toArray, List.getElem_cons_succ, List.getElem_cons_zero, Act.put, List.setIfInBounds_toArray, List.set_cons_zero, List.set_cons_succ]
        refine wpAnyK_1 3 (by kernel_rfl) (wpOpK' rfl rfl ?_)
        intro K hK
        obtain ⟨⟨c0, c1, c2⟩, d6⟩ := id hS
        unfold Oper.wp execOp
        go_simp
        refine hK.out _ _ hS ?_
        clear hK K c0 c1 c2 d6
        simp only [List.setIfInBounds_toArray, List.set_cons_zero, List.set_cons_succ]
        refine wpAnyK_1 5 (by kernel_rfl) (wpOpK' rfl rfl ?_)
        intro K hK
        refine ocallR (f := 84) (args := #[.agg #[.int .i64 it, .slice (some ⟨b, off, none⟩) ps.length cap, .slice ra rq.length rc], .int .i64 (j : Int)]) (by go_simp) (fewest_any _ ⟨it, ps, rq⟩ j WR (h0.keep kk) HT.out hlt) (fun w8 k8 => hK.out _ _ ⟨⟨(b0.keep k8).c0, (b0.keep k8).c1, (b0.keep k8).c2⟩, (bp.keep k8).c6⟩ ?_)
        rw [HFW.out]
        replace kk := kk.keep k8
        replace b0 := b0.keep k8
        replace hO := hO.keep k8
        clear hK K hS k8 bp
        have hS : True := trivial
        simp only [List.getElem_toArray, List.getElem_cons_succ, List.getElem_cons_zero, Act.put, List.setIfInBounds_toArray, List.set_cons_zero, List.set_cons_succ]
        refine wpAnyK_tail 6 rfl (by kernel_rfl) ?_
        simp only [List.drop_succ_cons, List.drop_zero]
        clear hS
        have hlt8 := b0.lt
        go_wp2_with (at_builtin; refine wappS1 elA2 (by omega) rfl (.tmp 19) (.tmp 26) rfl hO rfl (by simp [Value.oneCell']) rfl rfl (by omega) (by omega) ?_)
        intro v' wN o2 k2 _
        have bN := b0.step k2 (fun hq => by have := (hO.lt _ hq).1; omega)
        have kN := chg_ownS kk k2 hO (by omega)
        obtain ⟨na, nc, rfl, _⟩ := o2.view
        have HN2 := Lib.hid o2
        have HKN := Lib.hid (And.intro bN kN)
        clear o2 bN kN k2 hO kk b0
        go_wp2_with fail
        go_round
        case measure => simp [intOf]; omega
        case rel => exact ⟨j + 1, by omega, by go_num, by rw [HSN.out]; exact HN2.out, HKN.out.1, HKN.out.2⟩
      · have hje : j = ps.length := by omega
        subst hje
        go_wp2_with fail
        exact bodyPost_ret (v := .tuple #[.slice oa ps.length oc, .bool true]) (by simp [results, Tryz.results30, go_sem]) rfl ⟨_, _, rfl, by rw [HT.out], by rw [HN.out]; exact hO.weak (by omega), kk⟩
end Go.Proofs.YtmfhlojmoehmiaaGreat

/- a Tournament of the call's own: copied, marked; a list of [2]int compared, marked, looked at -/
namespace Go.Proofs.YtmfhlojmoehmiaaGreat
open Go.RowKit

theorem PO.weak {base base' g n : Nat} {ls : List Pl} {pf mf : Nat → Value} {w : World} (h : PO base g n ls pf mf w) (hb : base' ≤ base) : PO base' g n ls pf mf w :=
  ⟨h.len, h.lt, Nat.le_trans hb h.low, h.fr, h.cell, fun i hi => (h.pg i hi).weak hb, fun i hi => (h.mq i hi).weak hb, h.far, h.apart, h.dis⟩
/-- a Tournament of the call's own -/
def TOwn (base : Nat) (w : World) (v : Value) (t : To) (g : Nat) (pf mf : Nat → Value) (rv : Value) : Prop :=
  v = .agg #[.int .i64 t.items, .slice (some ⟨g, 0, none⟩) t.ps.length t.ps.length, rv] ∧ PO base g t.ps.length t.ps pf mf w ∧ OI base w rv t.reqs ∧ ∀ q, FP g t.ps.length pf mf q → ¬ own rv q
def ownT (g n : Nat) (pf mf : Nat → Value) (rv : Value) : Nat → Prop := fun q => FP g n pf mf q ∨ own rv q
theorem TOwn.inF {base : Nat} {w : World} {v : Value} {t : To} {g : Nat} {pf mf : Nat → Value} {rv : Value} (h : TOwn base w v t g pf mf rv) (q : Nat) (hq : ownT g t.ps.length pf mf rv q) : base ≤ q ∧ q < w.heap.size := by
  rcases hq with hq | hq
  · exact h.2.1.inF q hq
  · exact h.2.2.1.lt q hq
theorem TOwn.step {base : Nat} {w w' : World} {v : Value} {t : To} {g : Nat} {pf mf : Nat → Value} {rv : Value} {S : Nat → Prop} (h : TOwn base w v t g pf mf rv) (hc : Chg S w w') (hS : ∀ q, ownT g t.ps.length pf mf rv q → ¬ S q) : TOwn base w' v t g pf mf rv :=
  ⟨h.1, h.2.1.step hc (fun q hq => hS q (.inl hq)), h.2.2.1.step hc (fun q hq => hS q (.inr hq)), h.2.2.2⟩
theorem TOwn.keep {base : Nat} {w w' : World} {v : Value} {t : To} {g : Nat} {pf mf : Nat → Value} {rv : Value} (h : TOwn base w v t g pf mf rv) (hc : Chg No w w') : TOwn base w' v t g pf mf rv := h.step hc (fun _ _ e => e)
theorem TOwn.rt {base : Nat} {w : World} {v : Value} {t : To} {g : Nat} {pf mf : Nat → Value} {rv : Value} (h : TOwn base w v t g pf mf rv) (hn : t.ps.length ≤ 1048576) : RT No w v t :=
  ⟨_, _, h.1, h.2.1.read (Nat.le_refl _) (by omega) hn (fun _ _ e => e), h.2.2.1.read (fun _ _ e => e)⟩
set_option maxRecDepth 100000 in
set_option maxHeartbeats 1000000 in
theorem toTournament_own (v : Value) (t : To) (w : World) (h : RT No w v t) :
    Calls Tryz.prog 13 #[v] w (Ret fun r w' => (∃ g pf mf rv, TOwn w.heap.size w' r t g pf mf rv) ∧ Chg No w w') := by
  obtain ⟨it, ps, rq⟩ := t
  obtain ⟨pv, rv, rfl, hps, hrq⟩ := h
  simp only [TOwn] at hps hrq ⊢
  obtain ⟨ra, rn, rc, rfl⟩ := hrq.shape
  obtain ⟨pa, pn, pc, rfl⟩ := hps.shape
  go_enter Tryz.func13, Tryz.ntmps13
  go_wp2_with fail
  refine boxes33 (R := fun W => Calls _ _ _ W _) (fun W hW b0 b1 b2 => ?_)
  have hsz := hW.size
  have hl2 := b2.lt
  refine (toPlayerS_own _ ps W (hps.keep hW)).mono ?_
  rintro e w1 ⟨_, rfl, ⟨G, pf, mf, rfl, o1⟩, k1⟩
  have b0 := b0.keep k1
  have b1 := b1.keep k1
  have b2 := b2.keep k1
  have hW1 := hW.keep k1
  have g1 := b2.c1
  have g1f := b2.fr 1
  obtain ⟨c0, c1, c2, _⟩ := b0.far ⟨w.heap.size + 1 + 1, 1, none⟩ (.slice (some ⟨G, 0, none⟩) ps.length ps.length) (by simp <;> omega)
  go_wp2_with fail
  have b1 := b1.far ⟨w.heap.size + 1 + 1, 1, none⟩ (.slice (some ⟨G, 0, none⟩) ps.length ps.length) (by simp <;> omega)
  have b2 := b2.set1 (.slice (some ⟨G, 0, none⟩) ps.length ps.length)
  have o1 := o1.step (S := fun q => q = w.heap.size + 1 + 1) ((Chg.refl (fun q => q = w.heap.size + 1 + 1) w1).setCell (p := ⟨w.heap.size + 1 + 1, 1, none⟩) (fun _ => rfl) (.slice (some ⟨G, 0, none⟩) ps.length ps.length)) (fun k hk e => by have := o1.inF k hk; omega)
  have hW1 := hW1.setCell (p := ⟨w.heap.size + 1 + 1, 1, none⟩) (fun h => by simp at h; omega) (.slice (some ⟨G, 0, none⟩) ps.length ps.length)
  clear c0 c1 c2 g1 g1f
  have hsW1 : W.heap.size ≤ (w1.setCell ⟨w.heap.size + 1 + 1, 1, none⟩ (.slice (some ⟨G, 0, none⟩) ps.length ps.length)).heap.size := by have := k1.size; simpa [World.setCell] using this
  generalize w1.setCell ⟨w.heap.size + 1 + 1, 1, none⟩ (.slice (some ⟨G, 0, none⟩) ps.length ps.length) = W1 at *
  refine (toIntS_any No _ _ W1 (hrq.keep hW1)).mono ?_
  rintro e w2 ⟨v2, rfl, o2, k2⟩
  obtain ⟨za, zn, zc, rfl⟩ := o2.shape
  have b1 := b1.keep k2
  have b2 := b2.keep k2
  have hin := o1.inF
  have o1 := o1.keep k2
  have hW2 := hW1.keep k2
  have hs1 := hW1.size
  have hs2 := hW2.size
  have hl3 := b1.lt
  have g2 := b2.c2
  have g2f := b2.fr 2
  obtain ⟨r0, r1, r2, _⟩ := b2.set2 (.slice za zn zc)
  have B1 := b1.far ⟨w.heap.size + 1 + 1, 2, none⟩ (.slice za zn zc) (by simp <;> omega)
  obtain ⟨s0, s1, s2, sf⟩ := id B1
  have sf0 := sf 0
  have sf1 := sf 1
  have sf2 := sf 2
  clear sf
  obtain ⟨z0, z1, z2, _⟩ := ((B1.set0 (.int .i64 it)).set1 (.slice (some ⟨G, 0, none⟩) ps.length ps.length)).set2 (.slice za zn zc)
  have ch : Chg (fun q => q = w.heap.size + 1 ∨ q = w.heap.size + 1 + 1) w2 ((((w2.setCell ⟨w.heap.size + 1 + 1, 2, none⟩ (.slice za zn zc)).setCell ⟨w.heap.size + 1, 0, none⟩ (.int .i64 it)).setCell ⟨w.heap.size + 1, 1, none⟩ (.slice (some ⟨G, 0, none⟩) ps.length ps.length)).setCell ⟨w.heap.size + 1, 2, none⟩ (.slice za zn zc)) :=
    ((((Chg.refl (fun q => q = w.heap.size + 1 ∨ q = w.heap.size + 1 + 1) w2).setCell (p := ⟨w.heap.size + 1 + 1, 2, none⟩) (fun _ => .inr rfl) _).setCell (p := ⟨w.heap.size + 1, 0, none⟩) (fun _ => .inl rfl) _).setCell (p := ⟨w.heap.size + 1, 1, none⟩) (fun _ => .inl rfl) _).setCell (p := ⟨w.heap.size + 1, 2, none⟩) (fun _ => .inl rfl) _
  have f1 := (o1.step ch (fun k hk e => by have := hin k hk; rcases e with h | h <;> omega)).weak (base' := w.heap.size) hsz
  have f2 := (o2.step ch (fun q hq e => by have := (o2.lt q hq).1; rcases e with h | h <;> omega)).weak (base' := w.heap.size) (by omega)
  have f3 : ∀ q, FP G ps.length pf mf q → ¬ own (.slice za zn zc) q := fun q hq e => by
    have := hin q hq
    have := (o2.lt q e).1
    omega
  have hk := hW2.step ch (fun q hq hl => by rcases hq with h | h <;> omega)
  clear ch b0 b1 b2 B1
  go_wp2_with fail
  refine bodyPost_ret (v := .agg #[.int .i64 it, .slice (some ⟨G, 0, none⟩) ps.length ps.length, .slice za zn zc]) (by simp [results, Tryz.results13, go_sem, z0, z1, z2]) rfl ?_
  exact ⟨_, rfl, ⟨G, pf, mf, _, rfl, f1, f2, f3⟩, hk⟩

def markT (k : Int) (t : To) : To := ⟨t.items, mkTo k t.ps t.ps.length, marks (k + totPl t.ps) t.reqs.length⟩
set_option maxRecDepth 100000 in
set_option maxHeartbeats 1000000 in
theorem markTournament_any (base : Nat) (v : Value) (t : To) (k : Int) (w : World) {g : Nat} {pf mf : Nat → Value} {rv : Value} (h : TOwn base w v t g pf mf rv) (hn : t.ps.length ≤ 1048576) (hk : 0 ≤ k) (hk' : k + totPl t.ps ≤ 100000000) :
    Calls Tryz.prog 17 #[v, .int .i64 k] w (Ret fun r w' => r = .int .i64 (k + totPl t.ps + t.reqs.length) ∧ TOwn base w' v (markT k t) g pf mf rv ∧ Chg (ownT g t.ps.length pf mf rv) w w') := by
  obtain ⟨it, ps, rq⟩ := t
  obtain ⟨rfl, hP, hR, hd⟩ := h
  simp only at hP hR hd hn hk' ⊢
  have hml := mkTo_len k ps ps.length
  obtain ⟨ra, rn, rc, rfl⟩ := hR.shape
  have k0 := (Chg.refl No w).alloc (.cells #[.int .i64 it, .slice (some ⟨g, 0, none⟩) ps.length ps.length, .slice ra rn rc] 31)
  have b0 := Box3.new w (.int .i64 it) (.slice (some ⟨g, 0, none⟩) ps.length ps.length) (.slice ra rn rc) 31
  obtain ⟨c0, c1, c2, _⟩ := id b0
  have hb : ¬ FP g ps.length pf mf w.heap.size := fun hq => by have := (hP.inF _ hq).2; omega
  go_enter Tryz.func17, Tryz.ntmps17
  go_wp2_with fail
  refine (markPlayerS_any base g ps.length ps.length ps pf mf k _ (hP.keep k0) hn hk hk').mono ?_
  rintro e w1 ⟨_, rfl, rfl, o1, k1⟩
  have b0 := b0.step k1 hb
  clear c0 c1 c2
  obtain ⟨c0, c1, c2, _⟩ := id b0
  have hR1 := (hR.keep k0).step k1 (fun q hq e => hd q e hq)
  go_wp2_with fail
  refine (markIntS_any base _ rq (k + totPl ps) w1 hR1 (by omega)).mono ?_
  rintro e w2 ⟨_, rfl, rfl, o2, k2⟩
  go_wp2_with fail
  go_ret
  refine ⟨_, rfl, rfl, ⟨by simp only [markT, hml], ?_, by simpa only [markT] using o2, by simpa only [markT, hml] using hd⟩, ?_⟩
  · simp only [markT, hml]; exact o1.step k2 (fun q hq e => hd q hq e)
  · exact ((k0.mono (fun _ e _ => e.elim)).trans (k1.mono (fun q e _ => .inl e))).trans (k2.mono (fun q e _ => .inr e))
end Go.Proofs.YtmfhlojmoehmiaaGreat

/- a list of [2]int compared, marked, looked at -/
namespace Go.Proofs.YtmfhlojmoehmiaaGreat
open Go.RowKit

set_option maxRecDepth 100000 in
set_option maxHeartbeats 1000000 in
theorem eqIntA2_same (x y : Int) (w : World) : Calls Tryz.prog 85 #[.agg #[.int .i64 x, .int .i64 y], .agg #[.int .i64 x, .int .i64 y]] w (Ret fun r w' => r = .bool true ∧ Chg No w w') := by
  have hW0 : ∀ W, W = (w.alloc (.cells #[.int .i64 x, .int .i64 y] 80)).alloc (.cells #[.int .i64 x, .int .i64 y] 80) → Chg No w W ∧ BoxN W w.heap.size [.int .i64 x, .int .i64 y] ∧ BoxN W (w.heap.size + 1) [.int .i64 x, .int .i64 y] := fun W e => by
    subst e
    have hz : (w.alloc (.cells #[.int .i64 x, .int .i64 y] 80)).heap.size = w.heap.size + 1 := by simp
    have hb := BoxN.new (w.alloc (.cells #[.int .i64 x, .int .i64 y] 80)) #[.int .i64 x, .int .i64 y] 80
    rw [hz] at hb
    exact ⟨((Chg.refl No w).alloc _).alloc _, (BoxN.new w #[.int .i64 x, .int .i64 y] _).keep ((Chg.refl No _).alloc _), hb⟩
  have HW0 := Lib.hid hW0
  clear hW0
  go_enter Tryz.func85, Tryz.ntmps85
  go_wp2_with fail
  generalize hWW : (w.alloc _).alloc _ = WW
  obtain ⟨kk, bA, bB⟩ := HW0.out WW hWW.symm
  clear hWW
  go_loopw [5] (fun z wr => (z = .int .i64 0 ∨ z = .int .i64 1 ∨ z = .int .i64 2) ∧ Chg No w wr ∧ BoxN wr w.heap.size [.int .i64 x, .int .i64 y] ∧ BoxN wr (w.heap.size + 1) [.int .i64 x, .int .i64 y]) (fun z _ => 2 - (intOf z).toNat)
  case atStart => exact ⟨.inl rfl, kk, bA, bB⟩
  case round =>
    clear kk bA bB
    obtain ⟨hz, kk, bA, bB⟩ := hrel
    obtain ⟨C, hC1, hC2⟩ : ∃ C : World → Prop, (∀ W, C W → Chg No w W ∧ BoxN W w.heap.size [.int .i64 x, .int .i64 y] ∧ BoxN W (w.heap.size + 1) [.int .i64 x, .int .i64 y]) ∧ (∀ W, Chg No w W → BoxN W w.heap.size [.int .i64 x, .int .i64 y] → BoxN W (w.heap.size + 1) [.int .i64 x, .int .i64 y] → C W) := ⟨_, fun _ h => h, fun _ h h2 h3 => ⟨h, h2, h3⟩⟩
    have HCELL : Hid (∀ W, C W → W.cell? ⟨w.heap.size, 0, none⟩ = some (.int .i64 x) ∧ W.cell? ⟨w.heap.size, 1, none⟩ = some (.int .i64 y) ∧ W.cell? ⟨w.heap.size + 1, 0, none⟩ = some (.int .i64 x) ∧ W.cell? ⟨w.heap.size + 1, 1, none⟩ = some (.int .i64 y) ∧ True) := Lib.hid (fun W hW => by
      obtain ⟨_, g1, g2⟩ := hC1 W hW
      exact ⟨g1.c 0 _ rfl, g1.c 1 _ rfl, g2.c 0 _ rfl, g2.c 1 _ rfl, trivial⟩)
    have HX := Lib.hid hC1
    have hC0 := hC2 _ (kk.keep (drewNo wr)) (bA.keep (drewNo wr)) (bB.keep (drewNo wr))
    clear hC1 hC2 bA bB
    obtain rfl | rfl | rfl := hz
    · go_wp2_with fail
      refine wp_region_X C (by kernel_rfl) (by kernel_rfl) hC0 ?_
      clear hC0
      refine wpX_val (.int .i64 0) rfl (by intro W hW; obtain ⟨a0, a1, b0, b1, _⟩ := HCELL.out W hW; go_simp) ?_
      simp only [Act.put, List.setIfInBounds_toArray, List.set_cons_zero, List.set_cons_succ]
      refine wpX_val (.pointer (some ⟨w.heap.size, 0, none⟩)) rfl (by intro W hW; obtain ⟨a0, a1, b0, b1, _⟩ := HCELL.out W hW; go_simp) ?_
      simp only [Act.put, List.setIfInBounds_toArray, List.set_cons_zero, List.set_cons_succ]
      refine wpX_val (.int .i64 x) rfl (by intro W hW; obtain ⟨a0, a1, b0, b1, _⟩ := HCELL.out W hW; go_simp) ?_
      simp only [Act.put, List.setIfInBounds_toArray, List.set_cons_zero, List.set_cons_succ]
      refine wpX_val (.int .i64 0) rfl (by intro W hW; obtain ⟨a0, a1, b0, b1, _⟩ := HCELL.out W hW; go_simp) ?_
      simp only [Act.put, List.setIfInBounds_toArray, List.set_cons_zero, List.set_cons_succ]
      refine wpX_val (.pointer (some ⟨w.heap.size + 1, 0, none⟩)) rfl (by intro W hW; obtain ⟨a0, a1, b0, b1, _⟩ := HCELL.out W hW; go_simp) ?_
      simp only [Act.put, List.setIfInBounds_toArray, List.set_cons_zero, List.set_cons_succ]
      refine wpX_val (.int .i64 x) rfl (by intro W hW; obtain ⟨a0, a1, b0, b1, _⟩ := HCELL.out W hW; go_simp) ?_
      simp only [Act.put, List.setIfInBounds_toArray, List.set_cons_zero, List.set_cons_succ]
      refine wpX_val (.bool false) rfl (by intro W hW; obtain ⟨a0, a1, b0, b1, _⟩ := HCELL.out W hW; go_simp) ?_
      simp only [Act.put, List.setIfInBounds_toArray, List.set_cons_zero, List.set_cons_succ]
      refine wpX_nil (fun W hW => ?_)
      obtain ⟨k2, A2, B2⟩ := HX.out W hW
      go_wp2_with fail
      go_round
      case rel => exact ⟨.inr (.inl rfl), k2, A2, B2⟩
      case measure => simp [intOf]
    · go_wp2_with fail
      refine wp_region_X C (by kernel_rfl) (by kernel_rfl) hC0 ?_
      clear hC0
      refine wpX_val (.int .i64 1) rfl (by intro W hW; obtain ⟨a0, a1, b0, b1, _⟩ := HCELL.out W hW; go_simp) ?_
      simp only [Act.put, List.setIfInBounds_toArray, List.set_cons_zero, List.set_cons_succ]
      refine wpX_val (.pointer (some ⟨w.heap.size, 1, none⟩)) rfl (by intro W hW; obtain ⟨a0, a1, b0, b1, _⟩ := HCELL.out W hW; go_simp) ?_
      simp only [Act.put, List.setIfInBounds_toArray, List.set_cons_zero, List.set_cons_succ]
      refine wpX_val (.int .i64 y) rfl (by intro W hW; obtain ⟨a0, a1, b0, b1, _⟩ := HCELL.out W hW; go_simp) ?_
      simp only [Act.put, List.setIfInBounds_toArray, List.set_cons_zero, List.set_cons_succ]
      refine wpX_val (.int .i64 1) rfl (by intro W hW; obtain ⟨a0, a1, b0, b1, _⟩ := HCELL.out W hW; go_simp) ?_
      simp only [Act.put, List.setIfInBounds_toArray, List.set_cons_zero, List.set_cons_succ]
      refine wpX_val (.pointer (some ⟨w.heap.size + 1, 1, none⟩)) rfl (by intro W hW; obtain ⟨a0, a1, b0, b1, _⟩ := HCELL.out W hW; go_simp) ?_
      simp only [Act.put, List.setIfInBounds_toArray, List.set_cons_zero, List.set_cons_succ]
      refine wpX_val (.int .i64 y) rfl (by intro W hW; obtain ⟨a0, a1, b0, b1, _⟩ := HCELL.out W hW; go_simp) ?_
      simp only [Act.put, List.setIfInBounds_toArray, List.set_cons_zero, List.set_cons_succ]
      refine wpX_val (.bool false) rfl (by intro W hW; obtain ⟨a0, a1, b0, b1, _⟩ := HCELL.out W hW; go_simp) ?_
      simp only [Act.put, List.setIfInBounds_toArray, List.set_cons_zero, List.set_cons_succ]
      refine wpX_nil (fun W hW => ?_)
      obtain ⟨k2, A2, B2⟩ := HX.out W hW
      go_wp2_with fail
      go_round
      case rel => exact ⟨.inr (.inr rfl), k2, A2, B2⟩
      case measure => simp [intOf]
    · go_wp2_with fail
      go_ret
      exact ⟨_, rfl, rfl, kk⟩

set_option maxRecDepth 100000 in
set_option maxHeartbeats 1000000 in
theorem markIntA2S_any (base : Nat) (v : Value) (n : Nat) (l : List Int) (k : Int) (w : World) (h : OS 80 2 base w v n (l.map (Value.int .i64))) (hn : n ≤ 1000) (hk : 0 ≤ k ∧ k ≤ 100000000) :
    Calls Tryz.prog 32 #[v, .int .i64 k] w (Ret fun r w' => r = .int .i64 (k + (n * 2 : Nat)) ∧ OS 80 2 base w' v n ((marks k (n * 2)).map (Value.int .i64)) ∧ Chg (own v) w w') := by
  have hL : l.length = n * 2 := by have := h.cl; simpa using this
  obtain ⟨a, cap, rfl, hcap, hmax, hnone, hvw⟩ := h.view
  go_enter Tryz.func32, Tryz.ntmps32
  go_wp2_with fail
  go_loopw [1, 5] (fun s i wr => ∃ (j : Nat) (m : List Int), j ≤ n ∧ i = .int .i64 (j : Int) ∧ s = .int .i64 (k + (j * 2 : Nat)) ∧ m.length = n * 2 ∧ (∀ q, q < j * 2 → m.getD q 0 = k + q) ∧ OS 80 2 base wr (.slice a n cap) n (m.map (Value.int .i64)) ∧ Chg (own (.slice a n cap)) w wr) (fun _ i _ => n - (intOf i).toNat)
  case atStart => exact ⟨0, l, Nat.zero_le _, rfl, by simp, hL, fun q hq => by omega, h, Chg.refl _ w⟩
  case round =>
    obtain ⟨j, m, hj, rfl, rfl, hm, hsame, ho, hch⟩ := hrel
    have hj0 : (0 : Int) ≤ (j : Int) := Int.natCast_nonneg _
    by_cases hlt : j < n
    · have hj1 : (j : Int) < (n : Int) := by omega
      have hwj : IntKind.i64.wrap ((j : Int) + 1) = (j : Int) + 1 := IntWalk.i64_in _ (by omega)
      have HS := Lib.hid hsame
      clear hsame
      go_wp2_with fail
      go_loopw [1, 6] (fun s i wr => ∃ (r : Nat) (m : List Int), r ≤ 2 ∧ i = .int .i64 (r : Int) ∧ s = .int .i64 (k + ((j * 2 + r : Nat) : Int)) ∧ m.length = n * 2 ∧ (∀ q, q < j * 2 + r → m.getD q 0 = k + q) ∧ OS 80 2 base wr (.slice a n cap) n (m.map (Value.int .i64)) ∧ Chg (own (.slice a n cap)) w wr) (fun _ i _ => 2 - (intOf i).toNat)
      case atStart => exact ⟨0, m, by omega, rfl, rfl, hm, HS.out, ho, hch⟩
      case round =>
        clear ho hch HS hm m
        obtain ⟨r, m, hr, rfl, rfl, hm, hsame, ho, hch⟩ := hrel
        have hr0 : (0 : Int) ≤ (r : Int) := Int.natCast_nonneg _
        by_cases hr2 : r < 2
        · have hr1 : (r : Int) < 2 := by omega
          obtain ⟨g, rfl, hg1, hg2, _, _⟩ := hvw (by omega)
          have HS := Lib.hid hsame
          have hoc := ho.at.1 (j * 2 + r) (by rw [List.length_map, hm]; omega)
          have hof := ho.at.2.1 (j * 2 + r)
          have hw1 : IntKind.i64.wrap ((r : Int) + 1) = (r : Int) + 1 := IntWalk.i64_in _ (by omega)
          have hw2 : IntKind.i64.wrap (k + ((j * 2 + r : Nat) : Int) + 1) = k + ((j * 2 + r : Nat) : Int) + 1 := IntWalk.i64_in _ (by omega)
          obtain ⟨o1, o2⟩ := ho.store (j * 2 + r) (.int .i64 (k + ((j * 2 + r : Nat) : Int)))
          rw [show (m.map (Value.int .i64)).set (j * 2 + r) (.int .i64 (k + ((j * 2 + r : Nat) : Int))) = (m.set (j * 2 + r) (k + ((j * 2 + r : Nat) : Int))).map (Value.int .i64) from by rw [List.map_set]] at o1
          have hch1 := hch.step o2 (fun q hq _ => own_slice.2 hq)
          have HO1 := Lib.hid o1
          obtain ⟨K, hK⟩ : ∃ K : Int, k + ((j * 2 + r : Nat) : Int) = K := ⟨_, rfl⟩
          have HK := Lib.hid hK
          rw [hK] at hw2 o1 hch1 ⊢
          clear hsame hvw hK ho hch o2
          go_wp2_with fail
          go_round
          case measure => simp [intOf]; omega
          case rel =>
            refine ⟨r + 1, m.set (j * 2 + r) K, by omega, by go_num, ret_int_eq (by have := HK.out; omega), by simpa using hm, fun q hq => ?_, by have := HO1.out; rwa [HK.out] at this, hch1⟩
            by_cases hqj : q = j * 2 + r
            · subst hqj
              rw [List.getD_eq_getElem?_getD, List.getElem?_set_self (by omega)]
              exact HK.out.symm
            · rw [← HS.out q (by omega)]
              simp [List.getD_eq_getElem?_getD, Ne.symm hqj]
        · have hre : r = 2 := by omega
          subst hre
          go_wp2_with fail
          go_round
          case measure => simp [intOf]; omega
          case rel => exact ⟨j + 1, m, by omega, by go_num, by rw [show (j + 1) * 2 = j * 2 + 2 from by omega], hm, fun q hq => hsame q (by omega), ho, hch⟩
    · have hj' : j = n := by omega
      subst hj'
      have e : m = marks k (j * 2) := List.ext_getElem (by rw [hm, marks_len]) (fun q h1 h2 => by
        have := hsame q (by omega)
        rw [List.getD_eq_getElem?_getD, List.getElem?_eq_getElem h1] at this
        simp only [Option.getD_some] at this
        simp [marks, this])
      rw [e] at ho
      clear hsame hvw
      go_wp2_with fail
      go_ret
      exact ⟨_, rfl, rfl, ho, hch⟩

set_option maxRecDepth 100000 in
set_option maxHeartbeats 1000000 in
theorem heldIntA2S_any (A : Nat → Prop) (v : Value) (n : Nat) (k : Int) (w : World) (h : RF A w v 2 n ((marks k (n * 2)).map (Value.int .i64))) (hn : n ≤ 1000) (hk : 0 ≤ k ∧ k ≤ 100000000) :
    Calls Tryz.prog 33 #[v, .int .i64 k] w (Ret fun r w' => r = .int .i64 (k + (n * 2 : Nat)) ∧ Chg No w w') := by
  obtain ⟨a, cap, rfl, hcap, hmax, hlen, hnone, hc⟩ := id h
  go_enter Tryz.func33, Tryz.ntmps33
  go_wp2_with fail
  go_loopw [1, 5] (fun s i wr => ∃ j : Nat, j ≤ n ∧ i = .int .i64 (j : Int) ∧ s = .int .i64 (k + (j * 2 : Nat)) ∧ Chg No w wr) (fun _ i _ => n - (intOf i).toNat)
  case atStart => exact ⟨0, Nat.zero_le _, rfl, by simp, Chg.refl _ w⟩
  case round =>
    obtain ⟨j, hj, rfl, rfl, hch⟩ := hrel
    have hj0 : (0 : Int) ≤ (j : Int) := Int.natCast_nonneg _
    by_cases hlt : j < n
    · have hj1 : (j : Int) < (n : Int) := by omega
      have hwj : IntKind.i64.wrap ((j : Int) + 1) = (j : Int) + 1 := IntWalk.i64_in _ (by omega)
      obtain ⟨b, off, rfl, _, hb, hcell⟩ := hc (by omega)
      have HC := Lib.hid hcell
      clear hcell hc
      go_wp2_with fail
      go_loopw [1, 6] (fun s i wr => ∃ r : Nat, r ≤ 2 ∧ i = .int .i64 (r : Int) ∧ s = .int .i64 (k + ((j * 2 + r : Nat) : Int)) ∧ Chg No w wr) (fun _ i _ => 2 - (intOf i).toNat)
      case atStart => exact ⟨0, by omega, rfl, rfl, hch⟩
      case round =>
        clear hch
        obtain ⟨r, hr, rfl, rfl, hch⟩ := hrel
        have hr0 : (0 : Int) ≤ (r : Int) := Int.natCast_nonneg _
        by_cases hr2 : r < 2
        · have hr1 : (r : Int) < 2 := by omega
          have hcl := (hch.cellD b (off + (j * 2 + r)) hb (fun e => e)).trans (HC.out (j * 2 + r) (by rw [List.length_map, marks_len]; omega))
          have he : ((marks k (n * 2)).map (Value.int .i64)).getD (j * 2 + r) undef = .int .i64 (k + ((j * 2 + r : Nat) : Int)) := by
            rw [List.getD_eq_getElem?_getD, List.getElem?_map, List.getElem?_eq_getElem (by rw [marks_len]; omega)]
            simp [marks]
          rw [he, ← Nat.add_assoc] at hcl
          have hw1 : IntKind.i64.wrap ((r : Int) + 1) = (r : Int) + 1 := IntWalk.i64_in _ (by omega)
          have hw2 : IntKind.i64.wrap (k + ((j * 2 + r : Nat) : Int) + 1) = k + ((j * 2 + r : Nat) : Int) + 1 := IntWalk.i64_in _ (by omega)
          obtain ⟨K, hK⟩ : ∃ K : Int, k + ((j * 2 + r : Nat) : Int) = K := ⟨_, rfl⟩
          have HK := Lib.hid hK
          rw [hK] at hw2 hcl ⊢
          clear hK he
          go_wp2_with fail
          go_round
          case measure => simp [intOf]; omega
          case rel => exact ⟨r + 1, by omega, by go_num, ret_int_eq (by have := HK.out; omega), hch⟩
        · have hre : r = 2 := by omega
          subst hre
          go_wp2_with fail
          go_round
          case measure => simp [intOf]; omega
          case rel => exact ⟨j + 1, by omega, by go_num, by rw [show (j + 1) * 2 = j * 2 + 2 from by omega], hch⟩
    · have hj' : j = n := by omega
      subst hj'
      go_wp2_with fail
      go_ret
      exact ⟨_, rfl, rfl, hch⟩

set_option maxRecDepth 100000 in
set_option maxHeartbeats 1000000 in
theorem eqIntA2S_same (v v' : Value) (n : Nat) (l : List Int) (w : World) (h : RF No w v 2 n (l.map (Value.int .i64))) (h' : RF No w v' 2 n (l.map (Value.int .i64))) (hn : n ≤ 1000) :
    Calls Tryz.prog 31 #[v, v'] w (Ret fun r w' => r = .bool true ∧ Chg No w w') := by
  obtain ⟨a, cap, rfl, hcap, hmax, hlen, hnone, hc⟩ := id h
  obtain ⟨a', cap', rfl, hcap', hmax', _, _, hc'⟩ := id h'
  rw [List.length_map] at hlen
  have HC0 := Lib.hid hc
  have HC0' := Lib.hid hc'
  clear hc hc'
  go_enter Tryz.func31, Tryz.ntmps31
  go_wp2_with fail
  go_loopw [5] (fun i wr => ∃ j : Nat, j ≤ n ∧ i = .int .i64 (j : Int) ∧ Chg No w wr) (fun i _ => n - (intOf i).toNat)
  case atStart => exact ⟨0, Nat.zero_le _, rfl, Chg.refl No w⟩
  case round =>
    obtain ⟨j, hj, rfl, hch⟩ := hrel
    have hj0 : (0 : Int) ≤ (j : Int) := Int.natCast_nonneg _
    by_cases hlt : j < n
    · have hj1 : (j : Int) < (n : Int) := by omega
      have hw1 : IntKind.i64.wrap ((j : Int) + 1) = (j : Int) + 1 := IntWalk.i64_in _ (by omega)
      obtain ⟨b, off, rfl, _, hb, hcell⟩ := HC0.out (by omega)
      obtain ⟨b', off', rfl, _, hb', hcell'⟩ := HC0'.out (by omega)
      have hget : ∀ q, q < n * 2 → (l.map (Value.int .i64)).getD q undef = .int .i64 (l.getD q 0) := fun q hq => by
        rw [List.getD_eq_getElem?_getD, List.getElem?_map, List.getD_eq_getElem?_getD, List.getElem?_eq_getElem (by omega)]; rfl
      have d0 := hcell (j * 2) (by rw [List.length_map]; omega)
      have d1 := hcell (j * 2 + 1) (by rw [List.length_map]; omega)
      have e0 := hcell' (j * 2) (by rw [List.length_map]; omega)
      have e1 := hcell' (j * 2 + 1) (by rw [List.length_map]; omega)
      rw [hget _ (by omega)] at d0 e0
      rw [hget _ (by omega), ← Nat.add_assoc] at d1 e1
      obtain ⟨x, hx⟩ : ∃ x, l.getD (j * 2) 0 = x := ⟨_, rfl⟩
      obtain ⟨y, hy⟩ : ∃ y, l.getD (j * 2 + 1) 0 = y := ⟨_, rfl⟩
      rw [hx] at d0 e0
      rw [hy] at d1 e1
      obtain ⟨C, hC1, hC2⟩ : ∃ C : World → Prop, (∀ W, C W → Chg No w W) ∧ (∀ W, Chg No w W → C W) := ⟨_, fun _ h => h, fun _ h => h⟩
      have HCELL : Hid (∀ W, C W → W.cell? ⟨b, off + j * 2, none⟩ = some (.int .i64 x) ∧ W.cell? ⟨b, off + j * 2 + 1, none⟩ = some (.int .i64 y) ∧ W.cell? ⟨b', off' + j * 2, none⟩ = some (.int .i64 x) ∧ W.cell? ⟨b', off' + j * 2 + 1, none⟩ = some (.int .i64 y) ∧ True) := Lib.hid (fun W hW => by
        have g2 := hC1 W hW
        exact ⟨(g2.cellD b _ hb (fun e => e)).trans d0, (g2.cellD b _ hb (fun e => e)).trans d1, (g2.cellD b' _ hb' (fun e => e)).trans e0, (g2.cellD b' _ hb' (fun e => e)).trans e1, trivial⟩)
      have HX := Lib.hid hC1
      have HI := Lib.hid hC2
      have hC0 := hC2 _ hch.drew
      clear hC1 hC2 hcell hcell' hget hx hy d0 d1 e0 e1
      go_wp2_with fail
      refine wp_region_X C (by kernel_rfl) (by kernel_rfl) hC0 ?_
      clear hC0
      refine wpX_val (.slice (some ⟨b, off, none⟩) n cap) rfl (by intro W hW; obtain ⟨d0, d1, e0, e1, _⟩ := HCELL.out W hW; go_simp) ?_
      simp only [Act.put, List.setIfInBounds_toArray, List.set_cons_zero, List.set_cons_succ]
      refine wpX_val (.int .i64 j) rfl (by intro W hW; obtain ⟨d0, d1, e0, e1, _⟩ := HCELL.out W hW; go_simp) ?_
      simp only [Act.put, List.setIfInBounds_toArray, List.set_cons_zero, List.set_cons_succ]
      refine wpX_val (.pointer (some ⟨b, off + j * 2, none⟩)) rfl (by intro W hW; obtain ⟨d0, d1, e0, e1, _⟩ := HCELL.out W hW; go_simp) ?_
      simp only [Act.put, List.setIfInBounds_toArray, List.set_cons_zero, List.set_cons_succ]
      refine wpX_val (.agg #[.int .i64 x, .int .i64 y]) rfl (by intro W hW; obtain ⟨d0, d1, e0, e1, _⟩ := HCELL.out W hW; go_simp) ?_
      simp only [Act.put, List.setIfInBounds_toArray, List.set_cons_zero, List.set_cons_succ]
      refine wpX_val (.slice (some ⟨b', off', none⟩) n cap') rfl (by intro W hW; obtain ⟨d0, d1, e0, e1, _⟩ := HCELL.out W hW; go_simp) ?_
      simp only [Act.put, List.setIfInBounds_toArray, List.set_cons_zero, List.set_cons_succ]
      refine wpX_val (.int .i64 j) rfl (by intro W hW; obtain ⟨d0, d1, e0, e1, _⟩ := HCELL.out W hW; go_simp) ?_
      simp only [Act.put, List.setIfInBounds_toArray, List.set_cons_zero, List.set_cons_succ]
      refine wpX_val (.pointer (some ⟨b', off' + j * 2, none⟩)) rfl (by intro W hW; obtain ⟨d0, d1, e0, e1, _⟩ := HCELL.out W hW; go_simp) ?_
      simp only [Act.put, List.setIfInBounds_toArray, List.set_cons_zero, List.set_cons_succ]
      refine wpX_val (.agg #[.int .i64 x, .int .i64 y]) rfl (by intro W hW; obtain ⟨d0, d1, e0, e1, _⟩ := HCELL.out W hW; go_simp) ?_
      simp only [Act.put, List.setIfInBounds_toArray, List.set_cons_zero, List.set_cons_succ]
      refine wpX_call (.bool true) (f := 85) (args := #[.agg #[.int .i64 x, .int .i64 y], .agg #[.int .i64 x, .int .i64 y]]) rfl (by intro W hW; go_simp) (fun W hW => (eqIntA2_same x y W).mono (by rintro e w' ⟨_, rfl, rfl, hk⟩; exact ⟨rfl, HI.out _ ((HX.out W hW).keep hk)⟩)) ?_
      simp only [Act.put, List.setIfInBounds_toArray, List.set_cons_zero, List.set_cons_succ]
      refine wpX_val (.bool false) rfl (by intro W hW; obtain ⟨d0, d1, e0, e1, _⟩ := HCELL.out W hW; go_simp) ?_
      simp only [Act.put, List.setIfInBounds_toArray, List.set_cons_zero, List.set_cons_succ]
      refine wpX_nil (fun W hW => ?_)
      have g2 := HX.out W hW
      go_wp2_with fail
      go_round
      case rel => exact ⟨j + 1, by omega, by go_num, g2⟩
      case measure => simp [intOf]; omega
    · have hjl : j = n := by omega
      subst hjl
      go_wp2_with fail
      go_ret
      exact ⟨_, rfl, rfl, hch⟩
end Go.Proofs.YtmfhlojmoehmiaaGreat

/- the law of FaultPlaces returns true -/
namespace Go.Proofs.YtmfhlojmoehmiaaGreat
open Go.RowKit

/-- blocks made since -/
def Since (w : World) : Nat → Prop := fun q => w.heap.size ≤ q
theorem RI.since {A : Nat → Prop} {w : World} {v : Value} {l : List Int} (h : RI A w v l) : RI (Since w) w v l := h.to (Chg.refl No w) (fun _ e => e.elim) (fun _ hq => .inr hq)
theorem OI.later {base : Nat} {w w' : World} {v : Value} {l : List Int} (h : OI base w v l) (hb : w'.heap.size ≤ base) (q : Nat) (hq : own v q) : w'.heap.size ≤ q := by have := (h.lt q hq).1; omega
end Go.Proofs.YtmfhlojmoehmiaaGreat

/- FaultsBySize, both sides, and its law -/
namespace Go.Proofs.YtmfhlojmoehmiaaGreat
open Go.RowKit

/-- the numbers of faults for the sizes 1 .. j -/
def bySizeTo (p : Int) (l : List Int) : Nat → List Int
  | 0 => []
  | j + 1 => bySizeTo p l j ++ [((places (newC p ((j : Int) + 1)) l).length : Int)]
theorem bySizeTo_len (p : Int) (l : List Int) (j : Nat) : (bySizeTo p l j).length = j := by
  induction j with
  | zero => rfl
  | succ j ih => simp [bySizeTo, ih]
theorem asked_pol {n p k : Int} {l : List Int} (h : askedB n p k l = true) : 1 ≤ p ∧ p ≤ 7 := by
  simp only [askedB, Bool.and_eq_true, inB_iff] at h
  exact h.1.1
end Go.Proofs.YtmfhlojmoehmiaaGreat

/- HitShare, both sides, and its law -/
namespace Go.Proofs.YtmfhlojmoehmiaaGreat
open Go.RowKit

def hitV (n p k : Int) (l : List Int) : Fr := if askedB n p k l && decide (0 < l.length) then mkFr ((l.length : Int) - ((places (newC p k) l).length : Int)) (l.length : Int) else ⟨0, 0, false⟩

set_option maxRecDepth 100000 in
set_option maxHeartbeats 1000000 in
theorem eqFrac_same (a b : Int) (w : World) :
    Calls Tryz.prog 36 #[.agg #[.int .i64 a, .int .i64 b], .agg #[.int .i64 a, .int .i64 b]] w (Ret fun v w' => v = .bool true ∧ Chg No w w') := by
  go_enter Tryz.func36, Tryz.ntmps36
  go_wp2_with fail
  go_ret
  exact ⟨_, rfl, rfl, ((Chg.refl No w).alloc _).alloc _⟩
end Go.Proofs.YtmfhlojmoehmiaaGreat

/- the law of AccountOf returns true -/
namespace Go.Proofs.YtmfhlojmoehmiaaGreat
open Go.RowKit

theorem totPl_eq (ls : List Pl) (f : Nat → Nat) (h : ∀ i, i < ls.length → szPl (ls.getD i dPl) = 5 + f i) : totPl ls = 5 * ls.length + totN f ls.length := by
  have : ∀ j, j ≤ ls.length → totPl (ls.take j) = 5 * j + totN f j := by
    intro j
    induction j with
    | zero => intro _; simp [totPl, totN]
    | succ j ih =>
      intro hj
      rw [totPl_snoc ls j (by omega), ih (by omega), h j (by omega)]
      simp only [totN]; omega
  have := this ls.length (Nat.le_refl _)
  rwa [List.take_length] at this
theorem RawPS.readT {w : World} {v : Value} {m : Nat} {pn mn : Nat → Nat} (h : RawPS w v m pn mn) (hm : m ≤ 1048576) (ht : totN (fun i => pn i + mn i) m ≤ 1048576) : ∃ ls : List Pl, ls.length = m ∧ RPS No w v ls ∧ totPl ls = 5 * m + totN (fun i => pn i + mn i) m := by
  obtain ⟨a, cap, rfl, h1, h2, h3, h4⟩ := h
  by_cases h0 : 0 < m
  · obtain ⟨b, off, rfl, hb, hP⟩ := h4 h0
    have h' : ∀ i : Nat, ∃ p : Pl × Value × Value, i < m → (Cell7 w b (off + i * 7) p.1 p.2.1 p.2.2 ∧ RI No w p.2.1 p.1.ca.pages ∧ RI No w p.2.2 p.1.ca.marks) ∧ szPl p.1 = 5 + (pn i + mn i) := fun i => by
      by_cases hi : i < m
      · obtain ⟨f, p, k, a1, q1, a2, q2, hd, fa, ⟨c0, c1, c2, c3, c4, c5, c6⟩, _, _, g1, g2⟩ := hP i hi
        have := totN_get (fun i => pn i + mn i) hi
        obtain ⟨l1, e1, r1⟩ := g1 (by omega)
        obtain ⟨l2, e2, r2⟩ := g2 (by omega)
        exact ⟨(⟨f, ⟨p, k, l1, l2, hd⟩, fa⟩, _, _), fun _ => ⟨⟨⟨c0, c1, c2, c3, c4, c5, c6⟩, r1, r2⟩, by simp only [szPl]; omega⟩⟩
      · exact ⟨(dPl, undef, undef), fun e => absurd e hi⟩
    obtain ⟨f, hf⟩ := Classical.axiomOfChoice h'
    have hg : ∀ i, i < m → ((List.range m).map (fun i => (f i).1)).getD i dPl = (f i).1 := fun i hi => by
      rw [List.getD_eq_getElem?_getD]; simp [hi]
    refine ⟨(List.range m).map (fun i => (f i).1), by simp, ⟨some ⟨b, off, none⟩, cap, by simp, by simpa using h1, h2, by simpa using hm, fun i => (f i).2.1, fun i => (f i).2.2, fun i hi => ?_, fun _ => ⟨b, off, rfl, fun e => e, hb, fun i hi => ?_⟩⟩, ?_⟩
    · have hi : i < m := by simpa using hi
      rw [hg i hi]; exact (hf i hi).1.2
    · have hi : i < m := by simpa using hi
      rw [hg i hi]; exact (hf i hi).1.1
    · have e := totPl_eq ((List.range m).map (fun i => (f i).1)) (fun i => pn i + mn i) (fun i hi => by
        have hi : i < m := by simpa using hi
        rw [hg i hi]; exact (hf i hi).2)
      simpa using e
  · have : m = 0 := by omega
    subst this
    exact ⟨[], rfl, ⟨a, cap, rfl, Nat.zero_le _, h2, by simp, fun _ => undef, fun _ => undef, fun i hi => by simp at hi, fun h => absurd rfl h⟩, rfl⟩
theorem accN_le (t : To) : accN t ≤ 4 := by
  unfold accN
  cases ht : tourB t
  · simp
  · unfold tourB at ht
    simp only [Bool.and_eq_true, decide_eq_true_eq] at ht
    simp [ht.2.1]

set_option maxRecDepth 100000 in
set_option maxHeartbeats 4000000 in
theorem lawAccount_all (it : Int) (v : Value) (m : Nat) (pn mn : Nat → Nat) (ra : Option Addr) (rn rc : Nat) (w : World) (h : RawPS w v m pn mn) (hrn : rn ≤ 9223372036854775807) (hr : rn ≤ 17592186044416 → ∃ l : List Int, l.length = rn ∧ RI No w (.slice ra rn rc) l) :
    Calls Tryz.prog 6 #[.agg #[.int .i64 it, v, .slice ra rn rc]] w fun e w' => e = .returned (.bool true) ∧ Chg No w w' := by
  obtain ⟨pa, pc, rfl, hpc, hpc2, _⟩ := id h
  have k0 := (Chg.refl No w).alloc (.cells #[.int .i64 it, .slice pa m pc, .slice ra rn rc] 25)
  have b0 := Box3.new w (.int .i64 it) (.slice pa m pc) (.slice ra rn rc) 25
  have hP : RawPS (w.alloc (.cells #[.int .i64 it, .slice pa m pc, .slice ra rn rc] 25)) (.slice pa m pc) m pn mn := h.keep k0
  obtain ⟨f, hf⟩ : ∃ f, (fun i => pn i + mn i) = f := ⟨_, rfl⟩
  by_cases hfit : m + totN f m + rn ≤ 1048576
  · have E1 : Hid (szTo m (fun i => pn i + mn i) rn 1048576 = 1048576 - m - totN f m - rn) := Lib.hid (by rw [hf]; unfold szTo; rw [if_pos (by omega)])
    have hn1 : ¬ (1048576 : Int) - m - (totN f m : Int) - rn < 0 := by omega
    obtain ⟨rq, hrl, hrq⟩ := hr (by omega)
    obtain ⟨ps, hpl, hps, hpt⟩ := h.readT (by omega) (by rw [hf]; omega)
    rw [hf] at hpt
    have hT : RT No w (.agg #[.int .i64 it, .slice pa m pc, .slice ra rn rc]) ⟨it, ps, rq⟩ := ⟨_, _, rfl, hps, hrq⟩
    have hpn : (⟨it, ps, rq⟩ : To).ps.length ≤ 1048576 := by show ps.length ≤ _; omega
    have hpt : (1 : Int) + totPl (⟨it, ps, rq⟩ : To).ps ≤ 100000000 := by show (1 : Int) + totPl ps ≤ _; omega
    generalize (⟨it, ps, rq⟩ : To) = t at hT hpn hpt
    have HT := Lib.hid hT
    clear hfit h hr hf hrl hpl hrq hps hT
    go_enter Tryz.func6, Tryz.ntmps6
    go_wp2_with fail
    refine (szTournament_any it _ m pn mn ra rn rc _ _ hP hrn (by omega) (by omega)).mono ?_
    rintro e w1 ⟨_, rfl, rfl, k1⟩
    rw [E1.out]
    have b0 := b0.keep k1
    have kk := k0.keep k1
    obtain ⟨c0, c1, c2, _⟩ := id b0
    go_wp2_with fail
    refine (toTournament_any _ t _ (HT.out.keep kk)).mono ?_
    rintro e w2 ⟨v2, rfl, r2, k2⟩
    have b0 := b0.keep k2
    have kk := kk.keep k2
    clear c0 c1 c2
    go_wp2_with fail
    have hsz2 := kk.size
    obtain ⟨N, hN⟩ : ∃ N, accN t = N := ⟨_, rfl⟩
    obtain ⟨L, hL⟩ : ∃ L, accL t N = L := ⟨_, rfl⟩
    obtain ⟨T, hTb⟩ : ∃ T, tourB t = T := ⟨_, rfl⟩
    have hN4 : N ≤ 4 := hN ▸ accN_le t
    have HN := Lib.hid (And.intro hN (And.intro hL hTb))
    clear hN hL hTb
    refine (specAccount_any _ t _ r2).mono ?_
    rintro e w3 ⟨v3, _, rfl, rfl, o3, k3⟩
    rw [HN.out.1, HN.out.2.1] at o3
    rw [HN.out.2.2]
    obtain ⟨a3, c3, rfl, _⟩ := o3.view
    have O3 := o3.weak (base' := w.heap.size) hsz2
    have b0 := b0.keep k3
    have kk := kk.keep k3
    obtain ⟨c0, c1, c2, _⟩ := id b0
    have HL3 : Hid ((∀ q, own (.slice a3 N c3) q → q < w3.heap.size) ∧ w.heap.size < w3.heap.size) := Lib.hid ⟨fun q hq => (o3.lt q hq).2, b0.lt⟩
    clear o3
    go_wp2_with fail
    clear c0 c1 c2
    refine (toTournament_own _ t _ (HT.out.keep kk)).mono ?_
    rintro e w4 ⟨v4, rfl, ⟨g, pf, mf, rv, r4⟩, k4⟩
    have b0 := b0.keep k4
    have kk := kk.keep k4
    have O3 := O3.keep k4
    have hv4 := r4.1
    obtain ⟨ya, yn, yc, rfl⟩ := r4.2.2.1.shape
    obtain rfl := hv4
    go_wp2_with fail
    have hs4 := k4.size
    have HIN := Lib.hid r4.inF
    refine box31 (R := fun W => Calls _ _ _ W _) (fun W kW bx => ?_)
    have hsW := bx.lt
    have b0 := b0.keep kW
    have kk := kk.keep kW
    have O3 := O3.keep kW
    have r4 := r4.keep kW
    refine (implAccount_any _ t W (r4.rt hpn)).mono ?_
    rintro e w5 ⟨v5, _, rfl, rfl, o5, k5⟩
    rw [HN.out.1, HN.out.2.1] at o5
    rw [HN.out.2.2]
    obtain ⟨a5, c5, rfl, _⟩ := o5.view
    have b0 := b0.keep k5
    have bx := bx.keep k5
    have kk := kk.keep k5
    have O3 := O3.keep k5
    have r4 := r4.keep k5
    go_wp2_with fail
    refine (eqIntA2S_same _ _ N L w5 o5.readNo O3.readNo (by omega)).mono ?_
    rintro e w6 ⟨_, rfl, rfl, k6⟩
    have b0 := b0.keep k6
    have bx := bx.keep k6
    have kk := kk.keep k6
    have O3 := O3.keep k6
    have r4 := r4.keep k6
    have o5 := o5.keep k6
    go_wp2_with fail
    refine wp_region_K (S := fun W => Box3 W w4.heap.size (.int .i64 t.items) (.slice (some ⟨g, 0, none⟩) t.ps.length t.ps.length) (.slice ya yn yc)) (k := 3) (by kernel_rfl) ?_
    have hd := (Chg.refl No w6).drew
    have b0 := b0.keep hd
    have bx := bx.keep hd
    have kk := kk.keep hd
    have O3 := O3.keep hd
    have r4 := r4.keep hd
    have o5 := o5.keep hd
    generalize w6.drew = W6 at b0 bx kk O3 r4 o5 ⊢
    clear hd
    refine wpAnyK_take 0 (.agg #[.int .i64 t.items, .slice (some ⟨g, 0, none⟩) t.ps.length t.ps.length, .slice ya yn yc]) rfl (by kernel_rfl) (fun _ _ _ h => h) bx rfl (by rintro w ⟨c0, c1, c2, fr⟩; go_simp) ?_
    simp only [List.getElem_toArray, List.getElem_cons_zero, Act.put, List.setIfInBounds_toArray, List.set_cons_zero, List.set_cons_succ]
    refine wpAnyK_1 1 (by kernel_rfl) (wpOpK' rfl rfl ?_)
    intro K hK
    obtain ⟨c0, c1, c2, fr⟩ := id b0
    unfold Oper.wp execOp
    go_simp
    refine hK.out _ _ bx ?_
    clear hK K c0 c1 c2 fr
    simp only [List.setIfInBounds_toArray]
    refine wpAnyK_1 2 (by kernel_rfl) (wpOpK' rfl rfl ?_)
    intro K hK
    refine ocall (f := 13) (args := #[.agg #[.int .i64 it, .slice pa m pc, .slice ra rn rc]]) (by go_simp) (toTournament_any _ t W6 (HT.out.keep kk)) (fun v7 w7 h7 => hK.out _ _ (bx.keep h7.2) ?_)
    obtain ⟨r7, k7⟩ := h7
    clear hK K
    simp only [List.getElem_toArray, List.getElem_cons_succ, List.getElem_cons_zero, Act.put, List.setIfInBounds_toArray, List.set_cons_zero, List.set_cons_succ]
    have b0 := b0.keep k7
    have bx := bx.keep k7
    have kk := kk.keep k7
    have O3 := O3.keep k7
    have r4 := r4.keep k7
    have o5 := o5.keep k7
    refine wpAnyK_tail 3 rfl (by kernel_rfl) ?_
    simp only [List.drop_succ_cons, List.drop_zero]
    go_wp2_with fail
    refine (eqTournament_same _ _ t w7 (r4.rt hpn) r7).mono ?_
    rintro e w8 ⟨_, rfl, rfl, k8⟩
    have b0 := b0.keep k8
    have bx := bx.keep k8
    have kk := kk.keep k8
    have O3 := O3.keep k8
    have r4 := r4.keep k8
    have o5 := o5.keep k8
    obtain ⟨c0, c1, c2, _⟩ := id bx
    go_wp2_with fail
    clear c0 c1 c2
    refine (markTournament_any _ _ t 1 w8 r4 hpn (by omega) hpt).mono ?_
    rintro e w9 ⟨_, rfl, rfl, r9, k9⟩
    have hsW2 := kW.size
    have b0 := b0.step k9 (fun hq => by have := (HIN.out _ hq).1; have := HL3.out.2; omega)
    have O3 := O3.step k9 (fun q hq hq' => by have := (HIN.out _ hq').1; have := HL3.out.1 q hq; omega)
    have o5 := o5.step k9 (fun q hq hq' => by have := (HIN.out _ hq').2; have := (o5.lt q hq).1; omega)
    have kk := kk.step k9 (fun q hq hl => by have := (HIN.out _ hq).1; have := HL3.out.2; omega)
    clear r9 k9 r4 bx
    have hneg : ¬ (1 : Int) + totPl t.ps + t.reqs.length < 0 := by omega
    go_wp2_with fail
    refine (eqIntA2S_same _ _ N L w9 o5.readNo O3.readNo (by omega)).mono ?_
    rintro e w10 ⟨_, rfl, rfl, k10⟩
    have b0 := b0.keep k10
    have kk := kk.keep k10
    have O3 := O3.keep k10
    have o5 := o5.keep k10
    clear hneg
    go_wp2_with fail
    refine (markIntA2S_any _ _ N L 1 w10 o5 (by omega) (by omega)).mono ?_
    rintro e w11 ⟨_, rfl, rfl, o11, k11⟩
    have b0 := b0.step k11 (fun hq => by have := (o5.lt _ hq).1; have := HL3.out.2; omega)
    have O3 := O3.step k11 (fun q hq hq' => by have := (o5.lt _ hq').1; have := HL3.out.1 q hq; omega)
    have kk := kk.step k11 (fun q hq hl => by have := (o5.lt _ hq).1; have := HL3.out.2; omega)
    clear o5
    have hneg : ¬ (1 : Int) + ((N * 2 : Nat) : Int) < 0 := by omega
    go_wp2_with fail
    refine (heldIntA2S_any No _ N 1 w11 o11.readNo (by omega) (by omega)).mono ?_
    rintro e w12 ⟨_, rfl, rfl, k12⟩
    have b0 := b0.keep k12
    have kk := kk.keep k12
    have O3 := O3.keep k12
    have o11 := o11.keep k12
    obtain ⟨c0, c1, c2, _⟩ := id b0
    go_wp2_with fail
    clear c0 c1 c2
    refine (toTournament_any _ t _ (HT.out.keep kk)).mono ?_
    rintro e w13 ⟨v13, rfl, r13, k13⟩
    have kk := kk.keep k13
    have O3 := O3.keep k13
    have o11 := o11.keep k13
    go_wp2_with fail
    refine (implAccount_any _ t _ r13).mono ?_
    rintro e w14 ⟨v14, _, rfl, rfl, o14, k14⟩
    rw [HN.out.1, HN.out.2.1] at o14
    rw [HN.out.2.2]
    obtain ⟨a14, c14, rfl, _⟩ := o14.view
    have kk := kk.keep k14
    have O3 := O3.keep k14
    have o11 := o11.keep k14
    go_wp2_with fail
    refine (eqIntA2S_same _ _ N L w14 o14.readNo O3.readNo (by omega)).mono ?_
    rintro e w15 ⟨_, rfl, rfl, k15⟩
    have kk := kk.keep k15
    have o11 := o11.keep k15
    go_wp2_with fail
    refine (heldIntA2S_any No _ N 1 w15 o11.readNo (by omega) (by omega)).mono ?_
    rintro e w16 ⟨_, rfl, rfl, k16⟩
    have kk := kk.keep k16
    go_wp2_with fail
    go_ret
    exact ⟨rfl, kk⟩
  · have E1 : Hid (szTo m (fun i => pn i + mn i) rn 1048576 = -1) := Lib.hid (by rw [hf]; unfold szTo; rw [if_neg (by omega)])
    clear hfit h hr hf
    go_enter Tryz.func6, Tryz.ntmps6
    go_wp2_with fail
    refine (szTournament_any it _ m pn mn ra rn rc _ _ hP hrn (by omega) (by omega)).mono ?_
    rintro e w1 ⟨_, rfl, rfl, k1⟩
    rw [E1.out]
    go_wp2_with fail
    go_ret
    exact ⟨rfl, k0.keep k1⟩
end Go.Proofs.YtmfhlojmoehmiaaGreat
