import Derived.Test.YtdgcohoneijleaaGreatBf
import Derived.Test.YtdgcohoneijleaaGreatPkX9
/- the program's fewest faults -/
namespace Go.Proofs.YtdgcohoneijleaaGreat
open Go.RowKit

theorem Pln.mem {k : Nat} {rq : List Int} {j : Nat} {cs : Nat → List Int} {pl : List Int} (h : Pln k rq j cs pl) (hj : j ≤ rq.length) : ∀ i, i ≤ j → ∀ x ∈ cs i, x ∈ rq := by
  intro i
  induction i with
  | zero => intro _ x hx; rw [h.zero] at hx; cases hx
  | succ i ih =>
    intro hi x hx
    obtain ⟨h1, h2⟩ := h.ok i (by omega)
    obtain ⟨_, _, _, g4⟩ := (h.step i (by omega)).to5.ok h1 h2
    rcases g4 x hx with hx | rfl
    · exact ih (by omega) x hx
    · exact getD_mem (by omega)
theorem erase_stay {c : List Int} (h : c.Nodup) {p : Int} (hp : p ∈ c) : c.eraseIdx (atI c p).toNat = stay (· == p) c := by
  rw [atI_in hp, Int.toNat_natCast, stay_filter, ← List.Nodup.erase_eq_filter h, List.erase_eq_eraseIdx_of_idxOf]
  rfl
theorem elInts2 : El 29 25 (.slice none 0 0) 1 24 := El.mk' Tryz.underlying29 (by kernel_rfl) rfl (by omega)
theorem notOwnNew {g q : Nat} (h : own (.slice (some ⟨g, 0, none⟩) 0 0) q) : q = g := by
  simp only [own, Value.ownBlock] at h
  exact (Option.some.inj h).symm

set_option maxRecDepth 100000 in
set_option maxHeartbeats 4000000 in
theorem played_any (K : Nat) (hK : 1 ≤ K ∧ K ≤ 6) (vr vp : Value) (rq pl : List Int) (cs : Nat → List Int) (w : World) (hr : RI No w vr rq) (hp : RI No w vp pl) (hP : Pln K rq rq.length cs pl) (hneg : ∀ x ∈ rq, 0 ≤ x) (hl60 : rq.length ≤ 60) :
    Calls Tryz.prog 47 #[.int .i64 (K : Int), vr, vp] w (Ret fun r w' => (∃ v0, r = .tuple #[v0, .int .i64 (missC rq cs rq.length : Int), .bool true]) ∧ Chg No w w') := by
  have HPP := Lib.hid hP
  have HNEG := Lib.hid hneg
  have hpl := hP.len
  obtain ⟨ra, rcap, rfl, _, _, _, _, hcr⟩ := id hr
  obtain ⟨pa, pcap, rfl, _, _, _, _, hcp⟩ := id hp
  have HCR := Lib.hid hcr
  have HCP := Lib.hid hcp
  have HPL := Lib.hid hpl
  clear hcr hcp hpl hneg hP
  have hplI : (pl.length : Int) = (rq.length : Int) := by rw [HPL.out]
  have HPI := Lib.hid hplI
  clear hplI
  have k1 := ((Chg.refl No w).alloc (.cells #[] 3)).alloc (.cells #[] 25)
  have o1 : OI w.heap.size ((w.alloc (.cells #[] 3)).alloc (.cells #[] 25)) (.slice (some ⟨w.heap.size, 0, none⟩) 0 0) [] := (OI.zero (Nat.le_refl _)).alloc _
  have o2 : OS 25 1 w.heap.size ((w.alloc (.cells #[] 3)).alloc (.cells #[] 25)) (.slice (some ⟨w.heap.size + 1, 0, none⟩) 0 0) 0 [] := by
    have := OS.zero (E := 25) (sz := 1) (base := w.heap.size) (w := w.alloc (.cells #[] 3)) (by simp)
    rwa [World.size_alloc] at this
  go_enter Tryz.func47, Tryz.ntmps47
  go_wp2_with fail
  go_loopw [9, 10, 11, 20] (fun vc vo vf z wr => ∃ (j : Nat) (c : List Int) (us : List Value), j ≤ rq.length ∧ z = .int .i64 (j : Int) ∧ vf = .int .i64 (missC rq cs j : Int) ∧ OI w.heap.size wr vc c ∧ OS 25 1 w.heap.size wr vo j us ∧ Hid (∀ q, own vc q → ¬ own vo q) ∧ Hid (cs j = c) ∧ c.length ≤ K ∧ Chg No w wr) (fun _ _ _ z _ => rq.length - (intOf z).toNat)
  case atStart => exact ⟨0, [], [], Nat.zero_le _, rfl, rfl, o1, o2, Lib.hid (fun q h1 h2 => by have := notOwnNew h1; have := notOwnNew h2; omega), Lib.hid HPP.out.zero, by simp, k1⟩
  case round =>
    clear o1 o2 k1
    obtain ⟨j, c, us, hj, rfl, rfl, oc, oo, HD, HC, hcl, hch⟩ := hrel
    by_cases hlt : j < rq.length
    · obtain ⟨rb, off, rfl, _, hrb, hcell⟩ := HCR.out (by intro e; simp [e] at hlt)
      have hcl2 := (hch.cellD rb (off + j) hrb (fun e => e)).trans (hcell j hlt)
      obtain ⟨pb, poff, rfl, _, hpb, hpcell⟩ := HCP.out (by intro e; have := HPL.out; rw [e] at this; simp at this; omega)
      have hcl3 := (hch.cellD pb (poff + j) hpb (fun e => e)).trans (hpcell j (by rw [HPL.out]; exact hlt))
      have HST := Lib.hid (HPP.out.step j hlt)
      have HMC : Hid (missC rq cs (j + 1) = if hasB (cs j) (rq.getD j 0) then missC rq cs j else missC rq cs j + 1) := Lib.hid rfl
      have hx0 := HNEG.out _ (getD_mem hlt)
      have hcok := HPP.out.ok j hj
      have hcm := HPP.out.mem (Nat.le_refl _) j hj
      have hmok := (HPP.out.ok (j + 1) hlt).2
      have hmle := missC_le rq cs j
      obtain ⟨x, hx⟩ : ∃ x, rq.getD j 0 = x := ⟨_, rfl⟩
      obtain ⟨o, ho⟩ : ∃ o, pl.getD j 0 = o := ⟨_, rfl⟩
      obtain ⟨m, hm⟩ : ∃ m, cs (j + 1) = m := ⟨_, rfl⟩
      obtain ⟨mc, hmc⟩ : ∃ mc, missC rq cs j = mc := ⟨_, rfl⟩
      rw [HC.out] at hcok hcm HST HMC
      rw [hx] at hcl2 HST HMC hx0
      rw [ho] at hcl3 HST
      rw [hm] at HST hmok
      rw [hmc] at HMC hmle ⊢
      have HM1 : Hid (cs (j + 1) = m) := Lib.hid hm
      have hj0 : (0 : Int) ≤ (j : Int) := Int.natCast_nonneg _
      have hj1 : (j : Int) < (rq.length : Int) := by omega
      have hj2 : (j : Int) < (pl.length : Int) := by rw [HPI.out]; exact hj1
      have hw1 : IntKind.i64.wrap ((j : Int) + 1) = (j : Int) + 1 := IntWalk.i64_in _ (by omega)
      have hw2 : IntKind.i64.wrap ((mc : Int) + 1) = (mc : Int) + 1 := IntWalk.i64_in _ (by omega)
      have hmc0 : (0 : Int) ≤ (mc : Int) := Int.natCast_nonneg _
      have hn17 : j < 1099511627776 := by omega
      have hc17 : c.length < 17592186044416 := by omega
      have hsz := hch.size
      obtain ⟨ca, cap, rfl, _⟩ := id oc.view
      obtain ⟨oa, ocap, rfl, _⟩ := id oo.view
      have HOK := Lib.hid hcok
      have HCM := Lib.hid hcm
      clear hcell hpcell hx ho hm hmc hcok hcm
      go_wp2_with fail
      refine (Contains_any No _ c x wr oc.readNo).mono ?_
      rintro e w' ⟨rfl, rfl⟩
      cases hh : hasB c x
      · have hxc : x ∉ c := by simpa [hasB] using hh
        have FF : Hid (Value.int .i64 ((mc : Int) + 1) = Value.int .i64 (missC rq cs (j + 1) : Int)) := Lib.hid (by rw [HMC.out, hh]; simp)
        clear hh
        by_cases hf : c.length = K
        · have hst := HST.out
          unfold StepP at hst
          rw [if_neg hxc, if_pos hf] at hst
          obtain ⟨hfar, hm⟩ := hst
          have hoc := hfar.1
          have hidx := atI_in hoc
          have hil := List.idxOf_lt_length_of_mem hoc
          have herase := erase_stay HOK.out.1 hoc
          rw [hidx, Int.toNat_natCast] at herase
          obtain ⟨i, hi⟩ : ∃ i, c.idxOf o = i := ⟨_, rfl⟩
          rw [hi] at hidx hil herase
          rw [← herase] at hm
          have HIX := Lib.hid hidx
          have HMM := Lib.hid hm
          have hi0 : (0 : Int) ≤ (i : Int) := Int.natCast_nonneg _
          have hwi : IntKind.i64.wrap ((i : Int) + 1) = (i : Int) + 1 := IntWalk.i64_in _ (by omega)
          have he17 : (c.eraseIdx i).length < 17592186044416 := by have := List.length_eraseIdx_le c i; omega
          clear hfar hoc hidx herase hi hm hf
          go_wp2_with (go_at_call 59; refine (Index_any No _ c o _ oc.readNo).mono ?_; rintro e w' ⟨rfl, hww⟩; subst hww; rw [HIX.out])
          refine (Delete1_any _ _ c i _ wr oc hil rfl).mono ?_
          rintro e w6 ⟨v6, rfl, o6, k6, f6⟩
          obtain ⟨c6, n6, rfl, _⟩ := id o6.view
          have oo6 := oo.step k6 (fun q h1 h2 => HD.out q h2 h1)
          have ch6 := hch.step k6 (fun q hq hl => by have := (oc.lt q hq).1; omega)
          have hs6 := ch6.size
          clear k6 hcl2 hcl3
          go_wp2_with (at_builtin; refine wapp1 rfl (.tmp 50) (.tmp 52) rfl o6 rfl rfl he17 hs6 ?_)
          intro v8 w8 oc8 k8 f8
          rw [← HMM.out] at oc8
          obtain ⟨c8, n8, rfl, _⟩ := id oc8.view
          have oo8 := oo6.step k8 (fun q h1 h2 => HD.out q (f6 q h2) h1)
          have HD8 := Lib.hid (fun q (h1 : own (.slice c8 m.length n8) q) (h2 : own (.slice oa j ocap) q) => show False by
            rcases f8 q h1 with h | h
            · exact HD.out q (f6 q h) h2
            · have := (oo6.lt q h2).2; omega)
          have hch8 := ch6.step k8 (fun q hq hl => by have := (o6.lt q hq).1; omega)
          have hmk : ¬ ((K : Int) < (m.length : Int)) := by omega
          clear k8 oo6 ch6 hs6 o6 oc oo hch f6 f8
          go_wp2_with fail
          refine (rising_any No _ m w8 oc8.readNo).mono ?_
          rintro e w9 ⟨v9, rfl, o9, k9⟩
          obtain ⟨a9, n9, q9, rfl⟩ := o9.shape
          have oo9 := oo8.keep k9
          have oc9 := oc8.keep k9
          have hs9 := (hch8.keep k9).size
          have hn9 := oo9.len
          go_wp2_with (at_builtin; refine wappS1 elInts2 (by omega) rfl (.tmp 58) (.tmp 61) rfl oo9 rfl (by simp [Value.oneCell']) rfl rfl hn17 (by omega) ?_)
          intro v7 w7 h7 k7 f7
          obtain ⟨a7, c7, rfl, _⟩ := h7.view
          have oc7 := oc9.step k7 HD8.out
          have hch7 := (hch8.keep k9).step k7 (fun q hq hl => by have := (oo9.lt q hq).1; omega)
          have HD7 := Lib.hid (fun q (h1 : own (.slice c8 m.length n8) q) (h2 : own (.slice a7 (j + 1) c7) q) => show False by
            rcases f7 q h2 with h | h
            · exact HD8.out q h1 h
            · have := (oc9.lt q h1).2; omega)
          clear k7 k9 o9 oo9 oc9 oo8 oc8 hch8
          go_wp2_with fail
          go_round
          case rel => exact ⟨j + 1, m, _, by omega, by go_num, FF.out, oc7, h7, HD7, HM1, by omega, hch7⟩
          case measure => simp [intOf]; omega
        · have hst := HST.out
          unfold StepP at hst
          rw [if_neg hxc, if_neg hf] at hst
          obtain ⟨hm, rfl⟩ := hst
          have HMM := Lib.hid hm
          have HIX : Hid (atI c (-1) = -1) := Lib.hid (atI_none c (-1) (by
            have : (-1 : Int) ∉ c := fun e => by have := HNEG.out _ (HCM.out _ e); omega
            simpa [hasB] using this))
          clear hm hf
          go_wp2_with (first
            | (go_at_call 59; refine (Index_any No _ c (-1) _ oc.readNo).mono ?_; rintro e w' ⟨rfl, hww⟩; subst hww; rw [HIX.out])
            | (at_builtin; refine wapp1 rfl (.tmp 50) (.tmp 52) rfl oc rfl rfl hc17 hsz ?_))
          intro v8 w8 oc8 k8 f8
          rw [← HMM.out] at oc8
          obtain ⟨c8, n8, rfl, _⟩ := id oc8.view
          have oo8 := oo.step k8 (fun q h1 h2 => HD.out q h2 h1)
          have HD8 := Lib.hid (fun q (h1 : own (.slice c8 m.length n8) q) (h2 : own (.slice oa j ocap) q) => show False by
            rcases f8 q h1 with h | h
            · exact HD.out q h h2
            · have := (oo.lt q h2).2; omega)
          have hch8 := hch.step k8 (fun q hq hl => by have := (oc.lt q hq).1; omega)
          have hmk : ¬ ((K : Int) < (m.length : Int)) := by omega
          clear k8 oc oo hch f8 hcl2 hcl3
          go_wp2_with fail
          refine (rising_any No _ m w8 oc8.readNo).mono ?_
          rintro e w9 ⟨v9, rfl, o9, k9⟩
          obtain ⟨a9, n9, q9, rfl⟩ := o9.shape
          have oo9 := oo8.keep k9
          have oc9 := oc8.keep k9
          have hs9 := (hch8.keep k9).size
          have hn9 := oo9.len
          go_wp2_with (at_builtin; refine wappS1 elInts2 (by omega) rfl (.tmp 58) (.tmp 61) rfl oo9 rfl (by simp [Value.oneCell']) rfl rfl hn17 (by omega) ?_)
          intro v7 w7 h7 k7 f7
          obtain ⟨a7, c7, rfl, _⟩ := h7.view
          have oc7 := oc9.step k7 HD8.out
          have hch7 := (hch8.keep k9).step k7 (fun q hq hl => by have := (oo9.lt q hq).1; omega)
          have HD7 := Lib.hid (fun q (h1 : own (.slice c8 m.length n8) q) (h2 : own (.slice a7 (j + 1) c7) q) => show False by
            rcases f7 q h2 with h | h
            · exact HD8.out q h1 h
            · have := (oc9.lt q h1).2; omega)
          clear k7 k9 o9 oo9 oc9 oo8 oc8 hch8
          go_wp2_with fail
          go_round
          case rel => exact ⟨j + 1, m, _, by omega, by go_num, FF.out, oc7, h7, HD7, HM1, by omega, hch7⟩
          case measure => simp [intOf]; omega
      · have hxc : x ∈ c := by simpa [hasB] using hh
        have hst := HST.out
        unfold StepP at hst
        rw [if_pos hxc] at hst
        obtain ⟨rfl, rfl⟩ := hst
        have FF : Hid (Value.int .i64 (mc : Int) = Value.int .i64 (missC rq cs (j + 1) : Int)) := Lib.hid (by rw [HMC.out, hh]; simp)
        clear hh
        clear hcl2 hcl3
        go_wp2_with fail
        refine (rising_any No _ m wr oc.readNo).mono ?_
        rintro e w9 ⟨v9, rfl, o9, k9⟩
        obtain ⟨a9, n9, q9, rfl⟩ := o9.shape
        have oo9 := oo.keep k9
        have oc9 := oc.keep k9
        have hs9 := (hch.keep k9).size
        have hn9 := oo9.len
        go_wp2_with (at_builtin; refine wappS1 elInts2 (by omega) rfl (.tmp 58) (.tmp 61) rfl oo9 rfl (by simp [Value.oneCell']) rfl rfl hn17 (by omega) ?_)
        intro v7 w7 h7 k7 f7
        obtain ⟨a7, c7, rfl, _⟩ := h7.view
        have oc7 := oc9.step k7 HD.out
        have hch7 := (hch.keep k9).step k7 (fun q hq hl => by have := (oo9.lt q hq).1; omega)
        have HD7 := Lib.hid (fun q (h1 : own (.slice ca m.length cap) q) (h2 : own (.slice a7 (j + 1) c7) q) => show False by
          rcases f7 q h2 with h | h
          · exact HD.out q h1 h
          · have := (oc9.lt q h1).2; omega)
        clear k7 k9 o9 oo9 oc9 oo oc hch
        go_wp2_with fail
        go_round
        case rel => exact ⟨j + 1, m, _, by omega, by go_num, FF.out, oc7, h7, HD7, HM1, by omega, hch7⟩
        case measure => simp [intOf]; omega
    · have hjl : j = rq.length := by omega
      subst hjl
      obtain ⟨oa, ocap, rfl, _⟩ := id oo.view
      go_wp2_with fail
      refine bodyPost_ret (v := .tuple #[.slice oa rq.length ocap, .int .i64 (missC rq cs rq.length : Int), .bool true]) (by simp [results, Tryz.results47, go_sem]) rfl ?_
      exact ⟨_, rfl, ⟨_, rfl⟩, hch⟩
end Go.Proofs.YtdgcohoneijleaaGreat
