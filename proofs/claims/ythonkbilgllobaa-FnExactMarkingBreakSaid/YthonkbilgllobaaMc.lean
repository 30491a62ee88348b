import Derived.Test.YthonkbilgllobaaMb
/- MarkingBreak of the program -/
namespace Go.Proofs.Ythonkbilgllobaa
open Go.RowKit

theorem cfMark1 (x : Int) (c0 : Value) (w : World) : (callFunc 77 #[.int .i64 x, c0]).run Try.prog w = .ok (.enter 77 #[.int .i64 x, c0]) w := by kernel_rfl
set_option maxHeartbeats 400000 in
theorem mark11_any (A : Nat → Prop) (x : Int) (b : Nat) (v : Value) (l : List Int) (w : World) (hc : w.cell? ⟨b, 0, none⟩ = some v) (h : RI A w v l) :
    Calls Try.prog 77 #[.int .i64 x, .pointer (some ⟨b, 0, none⟩)] w fun e w' => e = .returned (.bool (hasB l x)) ∧ w = w' := by
  obtain ⟨a, n, c, rfl⟩ := h.shape
  go_enter Try.func77, Try.ntmps77
  go_wp2_with fail
  refine (Contains_any A _ l x w h).mono ?_
  rintro e w' ⟨rfl, rfl⟩
  go_wp2_with fail
  go_ret
  exact ⟨rfl, rfl⟩

/-- what the closure makes of its result so far -/
def outN (o : Int) (j : Nat) (t : Bool) : Int := if o < 0 ∧ t = true then (j : Int) else o
set_option maxRecDepth 100000 in
set_option maxHeartbeats 2000000 in
theorem mark1_any (A : Nat → Prop) (k : Int) (l : List Int) (j : Nat) (bp br bo : Nat) (pv v xb xa : Value) (lb la : List Int) (o : Int) (fb : Bool) (w : World) (hj : j < l.length) (_hl : l.length ≤ 1000000)
    (hcp : w.cell? ⟨bp, 0, none⟩ = some pv) (hp : RI No w pv (phF k l l.length)) (hcr : w.cell? ⟨br, 0, none⟩ = some v) (hv : RI No w v l) (hco : w.cell? ⟨bo, 0, none⟩ = some (.int .i64 o)) (hfo : w.frozen? ⟨bo, 0, none⟩ = false)
    (hxb : RI A w xb lb) (hxa : RI A w xa la) :
    Calls Try.prog 75 #[.int .i64 (j : Int), xb, xa, .bool fb, .pointer (some ⟨bp, 0, none⟩), .pointer (some ⟨br, 0, none⟩), .pointer (some ⟨bo, 0, none⟩)] w
      (Ret fun v' w' => v' = .tuple #[] ∧ w'.cell? ⟨bo, 0, none⟩ = some (.int .i64 (outN o j (comB (diffL (stay (hasB la) lb)) ((l.take j).drop (startP k l (j + 1)))))) ∧ w'.frozen? ⟨bo, 0, none⟩ = false ∧ Chg (fun q => q = bo) w w') := by
  have hlast := lastLE_phF k l j l.length hj
  have hsl := startP_lt k l j
  obtain ⟨s, hs⟩ : ∃ s, startP k l (j + 1) = s := ⟨_, rfl⟩
  rw [hs] at hlast hsl ⊢
  have hpl := phF_len k l l.length
  obtain ⟨ph, hph⟩ : ∃ ph, phF k l l.length = ph := ⟨_, rfl⟩
  rw [hph] at hp hlast hpl
  have HL := Lib.hid hlast
  obtain ⟨pa, pc, rfl, _⟩ := id hp
  obtain ⟨ra, rc, rfl, _⟩ := id hv
  obtain ⟨b1, b2, b3, rfl⟩ := hxb.shape
  obtain ⟨a1, a2, a3, rfl⟩ := hxa.shape
  have hbo := World.block_lt_of_cell? w _ hco
  simp only at hbo
  have hj0 : (0 : Int) ≤ (j : Int) := Int.natCast_nonneg _
  clear hlast hs hph
  go_enter Try.func75, Try.ntmps75
  go_wp2_with fail
  go_loop [11, 17] (fun f i => ∃ c : Nat, c ≤ ph.length ∧ i = .int .i64 c ∧ f = .int .i64 (lastLE j (ph.take c))) (fun _ i => ph.length - (intOf i).toNat)
  case atStart => exact ⟨0, Nat.zero_le _, rfl, rfl⟩
  case round =>
    obtain ⟨c, hc, rfl, rfl⟩ := hrel
    have hc0 : (0 : Int) ≤ (c : Int) := Int.natCast_nonneg _
    by_cases hct : c < ph.length
    · have hc1 : (c : Int) < (ph.length : Int) := by omega
      obtain ⟨b, off, rfl, _, _, hcell⟩ := hp.cellAt (by intro e; simp [e] at hct)
      have hck := hcell c hct
      have hsn := lastLE_take j ph c hct
      have hgy : ph.getD c 0 = ph[c] := by rw [List.getD_eq_getElem?_getD, List.getElem?_eq_getElem hct]; rfl
      obtain ⟨z, hz⟩ : ∃ z, ph[c] = z := ⟨_, rfl⟩
      rw [hgy, hz] at hck
      rw [hz] at hsn
      obtain ⟨f0, hf0⟩ : ∃ f0, lastLE j (ph.take c) = f0 := ⟨_, rfl⟩
      rw [hf0] at hsn ⊢
      have hw1 : IntKind.i64.wrap ((c : Int) + 1) = (c : Int) + 1 := IntWalk.i64_in _ (by omega)
      by_cases hzj : z ≤ (j : Int)
      · have HS : Hid (lastLE j (ph.take (c + 1)) = z) := Lib.hid (by rw [hsn, if_pos hzj])
        clear hcell hsn hgy hz hf0
        go_wp2_with fail
        go_round
        case rel => exact ⟨c + 1, hct, by go_num, by rw [HS.out]⟩
        case measure => simp [intOf]; omega
      · have HS : Hid (lastLE j (ph.take (c + 1)) = f0) := Lib.hid (by rw [hsn, if_neg hzj])
        clear hcell hsn hgy hz hf0
        go_wp2_with fail
        go_round
        case rel => exact ⟨c + 1, hct, by go_num, by rw [HS.out]⟩
        case measure => simp [intOf]; omega
    · have hce : c = ph.length := by omega
      subst hce
      rw [List.take_length, HL.out]
      obtain ⟨x, hx, hRx⟩ := hv.mid s j (s : Int) (j : Int) rfl rfl hsl (by omega)
      obtain ⟨x1, x2, x3, rfl⟩ := hRx.shape
      have k0 := (Chg.refl No w).alloc (.cells #[.slice x1 x2 x3] 22)
      have hca : (w.alloc (.cells #[.slice x1 x2 x3] 22)).cell? ⟨w.heap.size, 0, none⟩ = some (.slice x1 x2 x3) := by rw [World.cell?_alloc_new]; rfl
      have hco1 := (k0.cellD bo 0 hbo (fun e => e)).trans hco
      have hfo1 := (k0.frozenD bo 0 hbo (fun e => e)).trans hfo
      obtain ⟨g, hg⟩ : ∃ g, diffL (stay (hasB la) lb) = g := ⟨_, rfl⟩
      obtain ⟨asked, hak⟩ : ∃ asked, (l.take j).drop s = asked := ⟨_, rfl⟩
      rw [hak] at hRx
      have HG := Lib.hid hg
      have HAK := Lib.hid hak
      by_cases hoz : o < 0
      · clear hg hak
        go_wp2_with fail
        refine (goneBy_any A _ _ lb la _ (hxb.keep k0) (hxa.keep k0)).mono ?_
        rintro e w1 ⟨v1, rfl, o1, k1⟩
        rw [HG.out] at o1
        obtain ⟨g1, g2, g3, rfl⟩ := o1.shape
        have hb1 : w.heap.size < (w.alloc (.cells #[.slice x1 x2 x3] 22)).heap.size := by simp
        have hca1 := (k1.cellD w.heap.size 0 hb1 (fun e => e)).trans hca
        have hb2 := Nat.lt_of_lt_of_le hbo k0.size
        have hco2 := (k1.cellD bo 0 hb2 (fun e => e)).trans hco1
        have hfo2 := (k1.frozenD bo 0 hb2 (fun e => e)).trans hfo1
        have k2 := k0.keep k1
        have hR1 := hRx.keep k2
        clear hca hco1 hfo1
        go_wp2_with fail
        refine (ContainsFunc_any No _ g w1 o1.readNo 77 (.pointer (some ⟨w.heap.size, 0, none⟩)) (hasB asked) (fun x w => cfMark1 x _ w) (fun x _ => mark11_any No x _ _ asked w1 hca1 hR1)).mono ?_
        rintro e w2 ⟨rfl, rfl⟩
        have HCB : Hid (g.any (hasB asked) = comB g asked) := Lib.hid rfl
        rw [HCB.out]
        cases hcb : comB g asked
        · have HO : Hid (outN o j false = o) := Lib.hid (by unfold outN; rw [if_neg (by simp)])
          have HCV := Lib.hid hcb
          clear hcb
          dsimp only
          go_wp2_with fail
          go_end0
          exact ⟨_, rfl, rfl, by rw [HG.out, HAK.out, HCV.out, HO.out]; exact hco2, hfo2, k2.mono (fun q e _ => e.elim)⟩
        · have HO : Hid (outN o j true = (j : Int)) := Lib.hid (by unfold outN; rw [if_pos ⟨hoz, rfl⟩])
          have HCV := Lib.hid hcb
          clear hcb
          dsimp only
          go_wp2_with fail
          go_end0
          exact ⟨_, rfl, rfl, by rw [HG.out, HAK.out, HCV.out, HO.out]; exact World.cell?_setCell_same _ _ _ hco2, (World.frozen?_setCell _ _ _ _).trans hfo2, (k2.mono (T := fun q => q = bo) (fun q e _ => e.elim)).setCell (fun _ => rfl) _⟩
      · have HO : Hid (outN o j (comB g asked) = o) := Lib.hid (by unfold outN; rw [if_neg (fun e => hoz e.1)])
        clear hg hak
        go_wp2_with fail
        go_end0
        exact ⟨_, rfl, rfl, by rw [HG.out, HAK.out, HO.out]; exact hco1, hfo1, k0.mono (fun q e _ => e.elim)⟩

def outOf : Option Nat → Int
  | some i => (i : Int)
  | none => -1
theorem outOf_succ (p : Nat → Bool) (j : Nat) : outN (outOf (firstN p j)) j (p j) = outOf (firstN p (j + 1)) := by
  have e : firstN p (j + 1) = match firstN p j with
    | some i => some i
    | none => if p j then some j else none := rfl
  rw [e]
  unfold outN
  cases h : firstN p j with
  | some i =>
    have : ¬ ((i : Int) < 0) := by omega
    simp [outOf, this]
  | none => cases hp : p j <;> simp [outOf]
structure JM (p k : Int) (l : List Int) (base bp br bo : Nat) (pv v : Value) (j : Nat) (U : Nat → Prop) (w : World) : Prop where
  cp : w.cell? ⟨bp, 0, none⟩ = some pv
  rp : RI (fun q => base ≤ q ∨ q = bo) w pv (phF k l l.length)
  cr : w.cell? ⟨br, 0, none⟩ = some v
  rr : RI (fun q => base ≤ q ∨ q = bo) w v l
  co : w.cell? ⟨bo, 0, none⟩ = some (.int .i64 (outOf (firstN (breakB p k l) j)))
  fo : w.frozen? ⟨bo, 0, none⟩ = false
  us : ∀ q, U q ↔ q = bo
  lp : bp < base
  lr : br < base
  lo : bo < base
  np : bp ≠ bo
  nr : br ≠ bo
theorem JM.step {p k : Int} {l : List Int} {base bp br bo : Nat} {pv v : Value} {j : Nat} {U S : Nat → Prop} {w w' : World} (h : JM p k l base bp br bo pv v j U w) (hc : Chg S w w') (_hs : ∀ q, U q → ¬ S q) (hb : ∀ q, S q → base ≤ q) : JM p k l base bp br bo pv v j U w' := by
  have l1 := World.block_lt_of_cell? w _ h.cp
  have l2 := World.block_lt_of_cell? w _ h.cr
  have l3 := World.block_lt_of_cell? w _ h.co
  have s1 : ¬ S bp := fun e => by have := hb _ e; have := h.lp; omega
  have s2 : ¬ S br := fun e => by have := hb _ e; have := h.lr; omega
  have s3 : ¬ S bo := fun e => by have := hb _ e; have := h.lo; omega
  exact ⟨(hc.cellD bp 0 l1 s1).trans h.cp, h.rp.step hc (fun q hq => .inl (hb q hq)), (hc.cellD br 0 l2 s2).trans h.cr, h.rr.step hc (fun q hq => .inl (hb q hq)), (hc.cellD bo 0 l3 s3).trans h.co, (hc.frozenD bo 0 l3 s3).trans h.fo, h.us, h.lp, h.lr, h.lo, h.np, h.nr⟩
theorem JM.each {p k : Int} (hok : Ok (newC p k)) (l : List Int) (hl : l.length ≤ 1000000) (base bp br bo : Nat) (pv v : Value) :
    Each3 75 (.pointer (some ⟨bp, 0, none⟩)) (.pointer (some ⟨br, 0, none⟩)) (.pointer (some ⟨bo, 0, none⟩)) base (newC p k) l (JM p k l base bp br bo pv v) where
  lt := fun j U w h q hq => by
    rw [(h.us q).1 hq]; exact World.block_lt_of_cell? w _ h.co
  keep := fun j U w w' S h hc hs hb => h.step hc hs hb
  call := fun j U w xb xa hj h hxb hxa => by
    refine (mark1_any U k l j bp br bo pv v xb xa _ _ _ _ w hj hl h.cp (h.rp.weak (fun _ e _ => e.elim)) h.cr (h.rr.weak (fun _ e _ => e.elim)) h.co h.fo hxb hxa).mono ?_
    rintro e w' ⟨v', rfl, rfl, c1, f1, k1⟩
    rw [break_gone hok l j hj, outOf_succ] at c1
    have l1 := World.block_lt_of_cell? w _ h.cp
    have l2 := World.block_lt_of_cell? w _ h.cr
    exact ⟨_, rfl, rfl, U, ⟨(k1.cellD bp 0 l1 h.np).trans h.cp, h.rp.step k1 (fun q hq => .inr hq), (k1.cellD br 0 l2 h.nr).trans h.cr, h.rr.step k1 (fun q hq => .inr hq), c1, f1, h.us, h.lp, h.lr, h.lo, h.np, h.nr⟩, k1.mono (fun q hq _ => (h.us q).2 hq), fun q hq => .inl hq⟩
theorem cfMark (x0 x1 x2 x3 c1 c2 c3 : Value) (w : World) : (callFunc 75 #[x0, x1, x2, x3, c1, c2, c3]).run Try.prog w = .ok (.enter 75 #[x0, x1, x2, x3, c1, c2, c3]) w := by kernel_rfl

set_option maxRecDepth 100000 in
set_option maxHeartbeats 2000000 in
theorem implMarkingBreak_any (n p k : Int) (v : Value) (l : List Int) (w : World) (hv : RI No w v l) :
    Calls Try.prog 34 #[.int .i64 n, .int .i64 p, .int .i64 k, v] w (Ret2 fun v0 v1 w' => v0 = .int .i64 (idxOr0 (markV n p k l)) ∧ v1 = .bool (markV n p k l).isSome ∧ Chg No w w') := by
  obtain ⟨ra, rc, rfl, _⟩ := id hv
  have k0 := (Chg.refl No w).alloc (.cells #[.slice ra l.length rc] 22)
  have hcr : (w.alloc (.cells #[.slice ra l.length rc] 22)).cell? ⟨w.heap.size, 0, none⟩ = some (.slice ra l.length rc) := by rw [World.cell?_alloc_new]; rfl
  have hz0 : w.heap.size < (w.alloc (.cells #[.slice ra l.length rc] 22)).heap.size := by simp
  cases hh : askedB n p k l
  · have HA : Hid (markV n p k l = none) := Lib.hid (by unfold markV; rw [hh]; rfl)
    have HH := Lib.hid hh
    clear hh
    go_enter Try.func34, Try.ntmps34
    go_wp2_with fail
    refine (isRun_any No _ l n p k _ (hv.keep k0)).mono ?_
    rintro e w1 ⟨v1, rfl, rfl, k1⟩
    rw [show (inB p 1 7 && inB k 1 6 && (inB n 1 8 && decide (l.length ≤ 60) && belowB n l)) = false from HH.out]
    go_wp2_with fail
    go_ret2
    exact ⟨_, _, rfl, by rw [HA.out]; rfl, by rw [HA.out]; rfl, k0.keep k1⟩
  · have HA : Hid (markV n p k l = firstN (breakB p k l) l.length) := Lib.hid (by unfold markV; rw [hh]; rfl)
    have hok := askedB_ok hh
    have hl60 : l.length ≤ 1000000 := by
      simp only [askedB, Bool.and_eq_true, decide_eq_true_eq] at hh
      omega
    have HH := Lib.hid hh
    clear hh
    go_enter Try.func34, Try.ntmps34
    go_wp2_with fail
    refine (isRun_any No _ l n p k _ (hv.keep k0)).mono ?_
    rintro e w1 ⟨v1, rfl, rfl, k1⟩
    rw [show (inB p 1 7 && inB k 1 6 && (inB n 1 8 && decide (l.length ≤ 60) && belowB n l)) = true from HH.out]
    have hcr1 := (k1.cellD w.heap.size 0 hz0 (fun e => e)).trans hcr
    have k01 := k0.keep k1
    clear hcr
    go_wp2_with fail
    refine (phasesOf_any No k _ l w1 (hv.keep k01) hl60).mono ?_
    rintro e w2 ⟨v2, rfl, o2, k2⟩
    have hz1 : w.heap.size < w1.heap.size := Nat.lt_of_lt_of_le hz0 k1.size
    have hcr2 := (k2.cellD w.heap.size 0 hz1 (fun e => e)).trans hcr1
    have hz2 : w.heap.size < w2.heap.size := Nat.lt_of_lt_of_le hz1 k2.size
    have k02 := k01.keep k2
    obtain ⟨pa, pn, pc, rfl⟩ := o2.shape
    have kA := (Chg.refl No w2).alloc (.cells #[.slice pa pn pc] 22)
    have kB := kA.alloc (.cells #[.int .i64 (-1)] 3)
    have hcr3 := (kB.cellD w.heap.size 0 hz2 (fun e => e)).trans hcr2
    clear hcr1 hcr2
    go_wp2_with fail
    have hsz : w2.heap.size + 1 = (w2.alloc (.cells #[.slice pa pn pc] 22)).heap.size := (World.size_alloc ..).symm
    have hsz0 : ((w2.alloc (.cells #[.slice pa pn pc] 22)).alloc (.cells #[.int .i64 (-1)] 3)).heap.size = w2.heap.size + 2 := by simp
    have hJ0 : JM p k l ((w2.alloc (.cells #[.slice pa pn pc] 22)).alloc (.cells #[.int .i64 (-1)] 3)).heap.size w2.heap.size w.heap.size (w2.heap.size + 1) (.slice pa pn pc) (.slice ra l.length rc) 0 (fun q => q = w2.heap.size + 1) ((w2.alloc (.cells #[.slice pa pn pc] 22)).alloc (.cells #[.int .i64 (-1)] 3)) := by
      refine ⟨(((Chg.refl No _).alloc _).cellD w2.heap.size 0 (by simp) (fun e => e)).trans (by rw [World.cell?_alloc_new]; rfl), o2.readNo.to kB (fun _ e => e.elim) (fun q hq => .inr (by rcases hq with h | h <;> omega)), hcr3, (hv.keep k02).to kB (fun _ e => e.elim) (fun q hq => .inr (by rcases hq with h | h <;> omega)), ?_, ?_, fun q => Iff.rfl, by omega, by omega, by omega, by omega, by omega⟩
      · rw [hsz, World.cell?_alloc_new]; rfl
      · rw [hsz]; exact World.frozen?_alloc_new _ _ _ _
    refine (run3_any 75 (.pointer (some ⟨w2.heap.size, 0, none⟩)) (.pointer (some ⟨w.heap.size, 0, none⟩)) (.pointer (some ⟨w2.heap.size + 1, 0, none⟩)) p k _ l _ _ _ (JM.each hok l hl60 _ w2.heap.size w.heap.size (w2.heap.size + 1) (.slice pa pn pc) (.slice ra l.length rc)) hJ0 (fun x0 x1 x2 x3 w => cfMark x0 x1 x2 x3 _ _ _ w) ((hv.keep k02).to kB (fun _ e => e.elim) (fun q hq => .inr (by omega))) hok).mono ?_
    rintro e w3 ⟨v3, rfl, rfl, U, hJ, hch, _⟩
    have kk : Chg No w w3 := (k02.keep kB).step hch (fun q hq hl => by omega)
    have hco := hJ.co
    clear hJ hJ0 hsz hsz0 hcr3 hch kA kB
    cases hf : firstN (breakB p k l) l.length with
    | none =>
      have HE : Hid (markV n p k l = none) := Lib.hid (by rw [HA.out, hf])
      rw [hf] at hco
      simp only [outOf] at hco
      clear hf
      go_wp2_with fail
      go_ret2
      exact ⟨_, _, rfl, by rw [HE.out]; rfl, by rw [HE.out]; rfl, kk⟩
    | some i =>
      have HE : Hid (markV n p k l = some i) := Lib.hid (by rw [HA.out, hf])
      rw [hf] at hco
      simp only [outOf] at hco
      have hi0 : ¬ ((i : Int) < 0) := by omega
      clear hf
      go_wp2_with fail
      go_ret2
      exact ⟨_, _, rfl, by rw [HE.out]; rfl, by rw [HE.out]; rfl, kk⟩
end Go.Proofs.Ythonkbilgllobaa
