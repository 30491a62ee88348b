import Derived.Test.YtdgcohoneijleaaGreatPkX5
import Derived.Test.YtdgcohoneijleaaGreatPkX6
import Derived.Test.YtdgcohoneijleaaGreatAe
/- configurations and orders: the program's walk -/
namespace Go.Proofs.YtdgcohoneijleaaGreat
open Go.RowKit

def cfP (n k f x : Nat) : List (List Int) := (List.range' f (x - f)).flatMap fun (y : Nat) => (cfR n k y).map ((y : Int) :: ·)
theorem cfP_zero (n k f : Nat) : cfP n k f f = [] := by simp [cfP]
theorem cfP_succ (n k : Nat) {f x : Nat} (h : f ≤ x) : cfP n k f (x + 1) = cfP n k f x ++ (cfR n k x).map ((x : Int) :: ·) := by
  unfold cfP
  rw [show x + 1 - f = (x - f) + 1 by omega, List.range'_concat, List.flatMap_append]
  simp only [List.flatMap_cons, List.flatMap_nil, List.append_nil, Nat.one_mul]
  rw [show f + (x - f) = x by omega]
def cfQ (n k f x j : Nat) : List (List Int) := cfP n k f x ++ ((cfR n k x).take j).map ((x : Int) :: ·)
theorem cfQ_zero (n k f x : Nat) : cfQ n k f x 0 = cfP n k f x := by simp [cfQ]
theorem cfQ_full (n k : Nat) {f x : Nat} (h : f ≤ x) : cfQ n k f x (cfR n k x).length = cfP n k f (x + 1) := by
  rw [cfP_succ n k h, cfQ, List.take_length]
theorem cfQ_step (n k f : Nat) {x j : Nat} (hj : j < (cfR n k x).length) : cfQ n k f x j ++ [(x : Int) :: (cfR n k x).getD j []] = cfQ n k f x (j + 1) := by
  unfold cfQ
  rw [List.take_add_one, List.getElem?_eq_getElem hj, List.map_append, ← List.append_assoc, List.getD_eq_getElem?_getD, List.getElem?_eq_getElem hj]
  rfl
theorem cfR_le : ∀ n, n ≤ 6 → ∀ k, k ≤ 3 → ∀ f, f ≤ 6 → (cfR n k f).length ≤ 56 := by decide
theorem cfR_row {n k f j : Nat} (hj : j < (cfR n k f).length) : ((cfR n k f).getD j []).length = k := by
  refine ((cfR_mem n k f _).1 ?_).1
  rw [List.getD_eq_getElem?_getD, List.getElem?_eq_getElem hj]
  exact List.getElem_mem hj
/-- a table of one row -/
theorem OII.one {base : Nat} {w : World} {xv : Value} {l : List Int} (h : OI base w xv l) (hb : base ≤ w.heap.size) : OII base (w.alloc (.cells #[xv] 25)) (.slice (some ⟨w.heap.size, 0, none⟩) 1 1) [l] (fun q => q = w.heap.size ∨ own xv q) := by
  refine ⟨[xv], rfl, OS.lit #[xv] 1 hb (by omega) rfl, fun i hi => ?_, fun i hi q hq => ?_, fun i j hij hj => ?_, fun q => ?_⟩
  · have : i = 0 := by simpa using hi
    subst this
    exact h.alloc _
  · have : i = 0 := by simpa using hi
    subst this
    intro e
    have := own_slice.1 hq
    have := (h.lt q e).2
    omega
  · have : j = 0 := by simpa using hj
    omega
  · constructor
    · rintro (e | e)
      · exact .inl (own_slice.2 e)
      · exact .inr ⟨0, by simp, e⟩
    · rintro (e | ⟨i, hi, e⟩)
      · exact .inl (own_slice.1 e)
      · have : i = 0 := by simpa using hi
        subst this
        exact .inr e
set_option maxRecDepth 100000 in
set_option maxHeartbeats 4000000 in
theorem configsOf_any (n : Nat) (hn : n ≤ 6) : ∀ (k f : Nat) (w : World), k ≤ 3 → f ≤ n →
    Calls Tryz.prog 49 #[.int .i64 (n : Int), .int .i64 (k : Int), .int .i64 (f : Int)] w (Ret fun v w' => (∃ F, OII w.heap.size w' v (cfR n k f) F) ∧ Chg No w w')
  | 0, f, w, _, _ => by
    have h1 := OII.one (OI.zero (base := w.heap.size) (w := w) (Nat.le_refl _)) (by simp)
    rw [show (w.alloc (.cells #[] 3)).heap.size = w.heap.size + 1 by simp] at h1
    have k1 := ((Chg.refl No w).alloc (.cells #[] 3)).alloc (.cells #[.slice (some ⟨w.heap.size, 0, none⟩) 0 0] 25)
    go_enter Tryz.func49, Tryz.ntmps49
    go_wp2_with fail
    go_ret
    exact ⟨_, rfl, ⟨_, h1⟩, k1⟩
  | k + 1, f, w, hk, hf => by
    have HIH := Lib.hid (fun (x : Nat) (w : World) (hx : x ≤ n) => configsOf_any n hn k x w (by omega) hx)
    have HLE := Lib.hid (fun x (hx : x ≤ n) => cfR_le n hn k (by omega) x (by omega))
    have h1 := OII.zero (base := w.heap.size) (w := w) (Nat.le_refl _)
    have k1 := (Chg.refl No w).alloc (.cells #[] 25)
    obtain ⟨K, hK⟩ : ∃ K : Int, ((k + 1 : Nat) : Int) = K := ⟨_, rfl⟩
    have hK1 : ¬ K = 0 := by omega
    have hwK : IntKind.i64.wrap (K - 1) = (k : Int) := by rw [IntWalk.i64_in _ (by omega)]; omega
    rw [hK]
    clear hK
    go_enter Tryz.func49, Tryz.ntmps49
    go_wp2_with fail
    go_loopw [7, 8] (fun o z wr => ∃ (x : Nat) (ll : List (List Int)) (F : Nat → Prop), f ≤ x ∧ x ≤ n ∧ z = .int .i64 (x : Int) ∧ Hid (ll = cfP n k f x ∧ ll.length ≤ 56 * x) ∧ OII w.heap.size wr o ll F ∧ Chg No w wr) (fun _ z _ => n - (intOf z).toNat)
    case atStart => exact ⟨f, [], _, Nat.le_refl _, hf, rfl, Lib.hid ⟨(cfP_zero n k f).symm, by simp⟩, h1, k1⟩
    case round =>
      clear h1 k1
      obtain ⟨x, ll, F, hfx, hxn, rfl, HLL, hO, kr⟩ := hrel
      have hx0 : (0 : Int) ≤ (x : Int) := Int.natCast_nonneg _
      obtain ⟨va, vc, rfl⟩ := hO.readNo.shape
      by_cases hlt : x < n
      · have hx1 : (x : Int) < (n : Int) := by omega
        have hwx : IntKind.i64.wrap ((x : Int) + 1) = (x : Int) + 1 := IntWalk.i64_in _ (by omega)
        go_wp2_with fail
        refine (HIH.out x wr hxn).mono ?_
        rintro e w1 ⟨rv, rfl, ⟨FR, hR⟩, kc⟩
        obtain ⟨ra, rc, rfl⟩ := hR.readNo.shape
        obtain ⟨L, hL⟩ : ∃ L, cfR n k x = L := ⟨_, rfl⟩
        rw [hL] at hR ⊢
        have HL := Lib.hid (And.intro hL (show L.length ≤ 56 by rw [← hL]; exact HLE.out x hxn))
        have hL56 := HL.out.2
        have hZ := kc.size
        obtain ⟨Z0, hZ0⟩ : ∃ Z, wr.heap.size = Z := ⟨_, rfl⟩
        obtain ⟨Z1, hZ1⟩ : ∃ Z, w1.heap.size = Z := ⟨_, rfl⟩
        have hzw : w.heap.size ≤ Z0 := by rw [← hZ0]; exact kr.size
        have HRA := Lib.hid (hR.read (A := fun q => q < Z0 ∨ Z1 ≤ q) (fun q hq => by have := hR.lt q hq; rw [hZ0, hZ1] at this; omega))
        have HF : Hid (∀ q, F q → q < Z0 ∨ Z1 ≤ q) := Lib.hid (fun q hq => by have := hO.lt q hq; rw [hZ0] at this; omega)
        have HW1 : Hid (Z1 ≤ w1.heap.size) := Lib.hid (by omega)
        have hO1 := hO.keep kc
        have kr1 := kr.keep kc
        have HZW := Lib.hid hzw
        clear hL hR kc hZ hZ0 hZ1 hzw hO kr
        go_wp2_with fail
        go_loopw [7, 10, 28] (fun o _ z wq => ∃ (j : Nat) (l2 : List (List Int)) (F2 : Nat → Prop), j ≤ L.length ∧ z = .int .i64 (j : Int) ∧ Hid (l2 = cfQ n k f x j ∧ l2.length ≤ 56 * x + j) ∧ OII w.heap.size wq o l2 F2 ∧ Hid (∀ q, F2 q → q < Z0 ∨ Z1 ≤ q) ∧ Hid (RII (fun q => q < Z0 ∨ Z1 ≤ q) wq (.slice ra L.length rc) L) ∧ Hid (Z1 ≤ wq.heap.size) ∧ Chg No w wq) (fun _ _ z _ => L.length - (intOf z).toNat)
        case atStart => exact ⟨0, ll, F, Nat.zero_le _, rfl, Lib.hid ⟨by rw [cfQ_zero]; exact HLL.out.1, by have := HLL.out.2; omega⟩, hO1, HF, HRA, HW1, kr1⟩
        case round =>
          clear hO1 kr1 HRA HF HW1
          obtain ⟨j, l2, F2, hj, rfl, HL2, hO, HF, HR, HW, kq⟩ := hrel
          have hj0 : (0 : Int) ≤ (j : Int) := Int.natCast_nonneg _
          obtain ⟨oa, oc, rfl⟩ := hO.readNo.shape
          by_cases hltj : j < L.length
          · have hj1 : (j : Int) < (L.length : Int) := by omega
            have hwj : IntKind.i64.wrap ((j : Int) + 1) = (j : Int) + 1 := IntWalk.i64_in _ (by omega)
            obtain ⟨rb, ro, xa, xc, rfl, hrb, hcr, hrow⟩ := HR.out.row hltj
            obtain ⟨row, hrw⟩ : ∃ row, L.getD j [] = row := ⟨_, rfl⟩
            rw [hrw] at hcr hrow
            have HRW := Lib.hid hrw
            have hrl : row.length ≤ 3 := by
              have h9 := HL.out.1
              rw [← h9] at hrw hltj
              have := cfR_row hltj
              rw [hrw] at this
              omega
            have hbz : w.heap.size ≤ wr.heap.size := kq.size
            have h1 := OI.one (base := w.heap.size) (w := wr) (n := (x : Int)) hbz
            have hrow1 : RI No (wr.alloc (.cells #[.int .i64 (x : Int)] 3)) _ row := (hrow.weak (fun _ e _ => e.elim)).keep ((Chg.refl No wr).alloc (.cells #[.int .i64 (x : Int)] 3))
            have kka := kq.alloc (.cells #[.int .i64 (x : Int)] 3)
            have hOa := hO.keep ((Chg.refl No wr).alloc (.cells #[.int .i64 (x : Int)] 3))
            have HRa := Lib.hid (HR.out.keep ((Chg.refl No wr).alloc (.cells #[.int .i64 (x : Int)] 3)))
            have hap : [(x : Int)].length + row.length ≤ 17592186044416 := by simp; omega
            have hbz1 : w.heap.size ≤ (wr.alloc (.cells #[.int .i64 (x : Int)] 3)).heap.size := by simp; omega
            clear hrw
            go_wp2_with (at_builtin; refine wapp rfl (.tmp 34) (.tmp 35) rfl h1 hrow1 rfl rfl hap hbz1 ?_)
            intro v2 w2 h2 k2 f2
            obtain ⟨a2, c2, rfl, _⟩ := h2.view
            have hown1 : ∀ q, own (.slice (some ⟨wr.heap.size, 0, none⟩) 1 1) q → q = wr.heap.size := fun q hq => own_slice.1 hq
            have hZq := HW.out
            have hO2 := hOa.step k2 (fun q hq e => by have := hown1 q e; have := (hO.lt q hq).2; omega)
            have kq2 := kka.step k2 (fun q e hlt => by have := hown1 q e; omega)
            have HR2 := Lib.hid (HRa.out.step k2 (fun q e => .inr (by have := hown1 q e; omega)))
            have hd : ∀ q, own (.slice a2 ([(x : Int)] ++ row).length c2) q → ¬ F2 q := fun q hq hF => by
              have h8 := (hO.lt q hF).2
              rcases f2 q hq with e | e
              · have := hown1 q e; omega
              · omega
            have hlen : l2.length < 1099511627776 := by have := HL2.out.2; omega
            have hbase : w.heap.size ≤ w2.heap.size := kq2.size
            have hz2 := k2.size
            simp only [World.size_alloc] at hz2
            clear hOa HRa kka h1 hrow1 hcr hrow hap hbz1
            go_wp2_with (at_builtin; refine wappR rfl (.tmp 32) (.tmp 37) rfl hO2 h2 hd rfl rfl hlen hbase ?_)
            intro v3 w3 F3 h3 k3 hF3 hFo
            obtain ⟨v3a, v3c, rfl⟩ := h3.readNo.shape
            have HF3 : Hid (∀ q, F3 q → q < Z0 ∨ Z1 ≤ q) := Lib.hid (fun q hq => by
              rcases hF3 q hq with e | e | e
              · exact HF.out q e
              · rcases f2 q e with e | e
                · have := hown1 q e; omega
                · omega
              · omega)
            have kq3 := kq2.step k3 (fun q e hlt => by have := (hO2.lt q (hFo q e)).1; omega)
            have HR3 := Lib.hid (HR2.out.step k3 (fun q e => HF.out q (hFo q e)))
            have hz3 := k3.size
            clear hd
            go_wp2_with fail
            go_round
            case rel =>
              refine ⟨j + 1, l2 ++ [[(x : Int)] ++ row], F3, hltj, by go_num, Lib.hid ⟨?_, ?_⟩, h3, HF3, HR3, Lib.hid (by omega), kq3⟩
              · have h9 := HL.out.1
                rw [HL2.out.1, ← HRW.out, ← h9]
                exact cfQ_step n k f (by rw [h9]; exact hltj)
              · have := HL2.out.2
                rw [List.length_append]; simp; omega
            case measure => simp [intOf]; omega
          · have hje : j = L.length := by omega
            have hj1 : ¬ (j : Int) < (L.length : Int) := by omega
            go_wp2_with fail
            go_round
            case rel =>
              refine ⟨x + 1, by omega, hlt, by omega, l2, Lib.hid ⟨?_, by have := HL2.out.2; omega⟩, F2, hO⟩
              have h9 := HL.out.1
              rw [HL2.out.1, hje, ← h9]
              exact cfQ_full n k hfx
            case measure => simp [intOf]; omega
      · have hxe : x = n := by omega
        have hx1 : ¬ (x : Int) < (n : Int) := by omega
        have HFN := Lib.hid (And.intro hO kr)
        have HE : Hid (ll = cfR n (k + 1) f) := Lib.hid (by rw [HLL.out.1, hxe]; rfl)
        clear hO kr
        go_wp2_with fail
        go_ret
        exact ⟨_, rfl, ⟨F, by have := HFN.out.1; rw [← HE.out]; exact this⟩, HFN.out.2⟩
end Go.Proofs.YtdgcohoneijleaaGreat
