import Derived.Test.YtndhijckbponkaaGreatQf
import Derived.Test.YtndhijckbponkaaGreatPf
/- weights and a state drawn -/
namespace Go.Proofs.YtndhijckbponkaaGreat
open Go.RowKit

set_option maxRecDepth 100000 in
set_option maxHeartbeats 2000000 in
theorem weights11_any (b B K many : Nat) (c : Int) (w : World) (h : Cur w b B K) (hB : B ≤ w.heap.size) (hm : many ≤ 100) (hK : K ≤ 4000000000000000) :
    Calls Tryz.prog 85 #[.pointer (some ⟨b, 0, none⟩), .int .i64 (many : Int), .int .i64 c] w fun e w' => ∃ (v : Value) (l : List Int), e = .returned v ∧ OI w.heap.size w' v l ∧ l.length ≤ many + 1 ∧ Cur w' b B (K + 2 * many + 10) ∧ Chg (fun q => q = b) w w' := by
  have hb := h.lt
  have hbB := h.ltB
  have h0 := OI.zero (base := w.heap.size) (w := w) (Nat.le_refl _)
  have ka := (Chg.refl (fun q => q = b) w).alloc (.cells #[] 3)
  have hca := h.keep ((Chg.refl No w).alloc (.cells #[] 3))
  obtain ⟨wo, hwo⟩ : ∃ wo : World, wo = w := ⟨_, rfl⟩
  go_enter Tryz.func85, Tryz.ntmps85
  go_wp2_with fail
  rw [← hwo] at h0 ka hca hB hb ⊢
  have HWO := Lib.hid hwo
  clear hwo h
  go_loopw [7, 8] (fun o z wr => ∃ (j : Nat) (l : List Int), j ≤ many ∧ z = .int .i64 (j : Int) ∧ l.length = j ∧ OI wo.heap.size wr o l ∧ Cur wr b B (K + 2 * j) ∧ Chg (fun q => q = b) wo wr) (fun _ z _ => many - (intOf z).toNat)
  case atStart => exact ⟨0, [], Nat.zero_le _, rfl, rfl, h0, hca, ka⟩
  case round =>
    clear h0 ka hca
    obtain ⟨j, l, hj, rfl, hlj, ho, hcu, hch⟩ := hrel
    have hj0 : (0 : Int) ≤ (j : Int) := Int.natCast_nonneg _
    by_cases hlt : j < many
    · have hj1 : (j : Int) < (many : Int) := by omega
      have hwj : IntKind.i64.wrap ((j : Int) + 1) = (j : Int) + 1 := IntWalk.i64_in _ (by omega)
      go_wp2_with fail
      refine (among_lit b B (K + 2 * j) wr [1, 1, 2, 3, 5, 9, c] _ _ _ _ _ rfl rfl rfl rfl hcu (by omega) (by simp) (by simp)).mono ?_
      rintro e w9 ⟨y, rfl, hy, hc9, k9⟩
      have hl9 : l.length < 17592186044416 := by omega
      have ho9 := ho.step k9 (fun q hq e => by have := (ho.lt q hq).1; omega)
      have hch9 := hch.trans k9
      have hz9 := hch9.size
      have HLJ := Lib.hid hlj
      clear hy k9 hcu hch ho hlj
      go_wp2_with (at_builtin; refine wapp1 rfl (.tmp 15) (.tmp 20) rfl ho9 rfl rfl hl9 hz9 ?_)
      intro v2 w2 h2 k2 f2
      have hch10 := hch9.own k2 ho9 (Nat.le_refl _)
      have hc10 := hc9.step k2 (fun q hq => by have := (ho9.lt q hq).1; omega)
      clear ho9 hch9 k2 f2 hc9
      go_wp2_with fail
      go_round
      case rel => exact ⟨j + 1, l ++ [y], by omega, by go_num, by rw [List.length_append, HLJ.out]; rfl, h2, hc10.more (by omega), hch10⟩
      case measure => simp [intOf]; omega
    · have hje : j = many := by omega
      subst hje
      go_wp2_with fail
      refine (pick_any b B (K + 2 * j) 32 wr hcu (by omega) (by omega)).mono ?_
      rintro e w9 ⟨x, rfl, _, _, _, hc9, k9⟩
      have ho9 := ho.step k9 (fun q hq e => by have := (ho.lt q hq).1; omega)
      have hch9 := hch.trans k9
      have hz9 := hch9.size
      have hl9 : l.length < 17592186044416 := by omega
      have HLJ := Lib.hid hlj
      clear k9 hcu hch ho hlj
      by_cases h0 : x = 0
      · subst h0
        go_wp2_with (at_builtin; refine wapp1 rfl (.tmp 26) (.tmp 27) rfl ho9 rfl rfl hl9 hz9 ?_)
        intro v2 w2 h2 k2 f2
        have hch10 := hch9.own k2 ho9 (Nat.le_refl _)
        have hc10 := hc9.step k2 (fun q hq => by have := (ho9.lt q hq).1; omega)
        clear ho9 hch9 k2 f2 hc9
        go_wp2_with fail
        go_ret
        rw [← HWO.out]
        exact ⟨_, _, rfl, h2, by rw [List.length_append, HLJ.out]; simp, hc10.more (by omega), hch10⟩
      · by_cases h1 : x = 1
        · subst h1
          obtain ⟨oa, oc, rfl, hle, hle2, hcl⟩ := ho9.view
          by_cases hp : 0 < l.length
          · obtain ⟨g, rfl, hgR, hgl, hcell, hfr⟩ := hcl (by omega)
            have hp1 : (0 : Int) < (l.length : Int) := by omega
            clear hcl
            go_wp2_with fail
            refine (among_lit b B (K + 2 * j + 2) w9 [0, -1, 10] _ _ _ _ _ rfl rfl rfl rfl hc9 (by omega) (by decide) (by decide)).mono ?_
            rintro e w10 ⟨y, rfl, hy, hc10, k10⟩
            have ho10 := ho9.step k10 (fun q hq e => by have := (ho9.lt q hq).1; omega)
            have hci := (k10.cellD g 0 hgl (by omega)).trans (hcell 0 hp)
            have hfi := (k10.frozenD g 0 hgl (by omega)).trans (hfr 0)
            obtain ⟨hst, kst⟩ := ho10.store 0 y
            have hch10 := hch9.trans k10
            have hch11 := hch10.step kst (fun q e hlt => by omega)
            have hc11 := hc10.step kst (fun q e => by omega)
            clear hcell hfr hy ho9 ho10 hch9 hch10 hc9 hc10 k10 kst
            go_wp2_with fail
            go_ret
            rw [← HWO.out]
            exact ⟨_, _, rfl, hst, by rw [List.length_set, HLJ.out]; omega, hc11.more (by omega), hch11⟩
          · have hp1 : ¬ (0 : Int) < (l.length : Int) := by omega
            clear hcl
            go_wp2_with fail
            go_ret
            rw [← HWO.out]
            exact ⟨_, _, rfl, ho9, by rw [HLJ.out]; omega, hc9.more (by omega), hch9⟩
        · go_wp2_with fail
          go_ret
          rw [← HWO.out]
          exact ⟨_, _, rfl, ho9, by rw [HLJ.out]; omega, hc9.more (by omega), hch9⟩
set_option maxRecDepth 100000 in
set_option maxHeartbeats 2000000 in
theorem state8_any (b B K : Nat) (v : Value) (P : Pr) (w : World) (h : Cur w b B K) (hP : RPr No w v P) (hm : P.mv.length ≤ 100) (hK : K ≤ 4000000000000000) :
    Calls Tryz.prog 35 #[.pointer (some ⟨b, 0, none⟩), v] w fun e w' => ∃ r : Int, e = .returned (.int .i64 r) ∧ -1 ≤ r ∧ r ≤ (P.mv.length : Int) ∧ Cur w' b B (K + 10) ∧ Chg (fun q => q = b) w w' := by
  obtain ⟨m, s⟩ := P
  obtain ⟨mv, sv, rfl, hmv, hsv⟩ := hP
  obtain ⟨ma, mc, rfl⟩ := hmv.shape
  obtain ⟨sa, sc, rfl⟩ := hsv.shape
  have hb := h.lt
  dsimp only at hm hmv hsv ⊢
  obtain ⟨n, hn⟩ : ∃ n, m.length = n := ⟨_, rfl⟩
  rw [hn] at hm ⊢
  have hn0 : (0 : Int) ≤ (n : Int) := Int.natCast_nonneg _
  clear hmv hsv hn
  have hb1 := BoxN.new w #[.slice ma n mc, .slice sa s.length sc] 26
  have k1 := (Chg.refl No w).alloc (.cells #[.slice ma n mc, .slice sa s.length sc] 26)
  have z1 : (w.alloc (.cells #[.slice ma n mc, .slice sa s.length sc] 26)).heap.size = w.heap.size + 1 := World.size_alloc ..
  obtain ⟨G, hG⟩ : ∃ G, w.heap.size = G := ⟨_, rfl⟩
  rw [hG] at hb1 z1
  have h1 := h.keep k1
  have ch1 := (Chg.refl (fun q => q = b) w).step k1 (fun _ e _ => e.elim)
  have hbG : ¬ G = b := by omega
  have HG := Lib.hid hG
  by_cases hz : n = 0
  · subst hz
    go_enter Tryz.func35, Tryz.ntmps35
    go_wp2_with fail
    clear hG h k1
    generalize w.alloc (.cells #[.slice ma 0 mc, .slice sa s.length sc] 26) = w1 at hb1 z1 h1 ch1 ⊢
    refine (among_lit b B K w1 [-1, 0] _ _ _ _ _ z1 rfl rfl rfl h1 (by omega) (by decide) (by decide)).mono ?_
    rintro e w2 ⟨r, rfl, hr, hc2, k2⟩
    go_wp2_with fail
    go_ret
    simp only [List.mem_cons, List.not_mem_nil, or_false] at hr
    exact ⟨_, rfl, by omega, by omega, hc2.more (by omega), ch1.trans k2⟩
  · have hz1 : ¬ (n : Int) = 0 := by omega
    have hbq : ((n : Int) == 0) = false := by simpa using hz1
    go_enter Tryz.func35, Tryz.ntmps35
    go_wp2_with fail
    clear hG h k1
    generalize w.alloc (.cells #[.slice ma n mc, .slice sa s.length sc] 26) = w1 at hb1 z1 h1 ch1 ⊢
    refine (one_any b B K 20 w1 h1 (by omega) (by omega)).mono ?_
    rintro e w2 ⟨r, rfl, hc2, k2⟩
    have hb2 := hb1.step k2 hbG
    have ch2 := ch1.trans k2
    have g0 := hb2.c 0 _ rfl
    clear hb1 ch1 h1 k2
    cases r
    · go_wp2_with fail
      refine (pick_any b B (K + 2) (n : Int) w2 hc2 (by omega) (by omega)).mono ?_
      rintro e w3 ⟨y, rfl, hy0, hy1, hy2, hc3, k3⟩
      go_wp2_with fail
      go_ret
      refine ⟨_, rfl, by omega, ?_, hc3.more (by omega), ch2.trans k3⟩
      by_cases e : (1 : Int) < (n : Int)
      · have := hy1 e; omega
      · have := hy2 (by omega); omega
    · go_wp2_with fail
      refine (among_lit b B (K + 2) w2 [-1, (n : Int)] _ _ _ _ _ rfl rfl rfl rfl hc2 (by omega) (by simp) (by simp)).mono ?_
      rintro e w3 ⟨y, rfl, hy, hc3, k3⟩
      go_wp2_with fail
      go_ret
      simp only [List.mem_cons, List.not_mem_nil, or_false] at hy
      exact ⟨_, rfl, by omega, by omega, hc3.more (by omega), ch2.trans k3⟩
end Go.Proofs.YtndhijckbponkaaGreat

/- chances drawn: their memory -/
namespace Go.Proofs.YtndhijckbponkaaGreat
open Go.RowKit

/-- Chances that grow while they are drawn -/
structure CsD (b B K G R X : Nat) (w W : World) (pv : List Value) (wv qv : Value) (ws : List Int) (qs : List (List Int)) (F : Nat → Prop) : Prop where
  cur : Cur W b B K
  chg : Chg (fun q => q = b) w W
  bp : BoxN W G pv
  br : BoxN W R [.slice none 0 0, .slice none 0 0]
  bx : BoxN W X [wv, qv]
  ow : OI (X + 1) W wv ws
  oq : OII (X + 1) W qv qs F
  ap : ∀ q, own wv q → ¬ F q
  lt : b < B ∧ B ≤ G ∧ G < R ∧ R < X
  sz : w.heap.size = G
section
variable {b B K K' G R X : Nat} {w W W' : World} {pv : List Value} {wv qv : Value} {ws : List Int} {qs : List (List Int)} {F : Nat → Prop}
theorem CsD.call (h : CsD b B K G R X w W pv wv qv ws qs F) (hc : Cur W' b B K') (hk : Chg (fun q => q = b) W W') : CsD b B K' G R X w W' pv wv qv ws qs F := by
  have hl := h.lt
  exact ⟨hc, h.chg.trans hk, h.bp.step hk (by omega), h.br.step hk (by omega), h.bx.step hk (by omega), h.ow.step hk (fun q hq e => by have := (h.ow.lt q hq).1; omega), h.oq.step hk (fun q hq e => by have := (h.oq.lt q hq).1; omega), h.ap, h.lt, h.sz⟩
theorem CsD.keep (h : CsD b B K G R X w W pv wv qv ws qs F) (hk : Chg No W W') : CsD b B K G R X w W' pv wv qv ws qs F :=
  h.call (h.cur.keep hk) ((Chg.refl (fun q => q = b) W).step hk (fun _ e _ => e.elim))
theorem CsD.more (h : CsD b B K G R X w W pv wv qv ws qs F) (hK : K ≤ K') : CsD b B K' G R X w W pv wv qv ws qs F := ⟨h.cur.more hK, h.chg, h.bp, h.br, h.bx, h.ow, h.oq, h.ap, h.lt, h.sz⟩
theorem CsD.far (h : CsD b B K G R X w W pv wv qv ws qs F) {T : Nat → Prop} {Z : Nat} (k : Chg T W W') (hT : ∀ q, T q → Z ≤ q) (hF : ∀ q, F q → q < Z) (hw : ∀ q, own wv q → q < Z) (hX : X < Z) : CsD b B K G R X w W' pv wv qv ws qs F := by
  have hl := h.lt
  exact ⟨h.cur.step k (fun q e => by have := hT q e; omega), h.chg.step k (fun q e hlt => by have := hT q e; have := h.sz; omega), h.bp.step k (fun e => by have := hT _ e; omega), h.br.step k (fun e => by have := hT _ e; omega), h.bx.step k (fun e => by have := hT _ e; omega),
    h.ow.step k (fun q hq e => by have := hw q hq; have := hT q e; omega), h.oq.step k (fun q hq e => by have := hF q hq; have := hT q e; omega), h.ap, h.lt, h.sz⟩
/-- a sequence more -/
theorem CsD.app (h : CsD b B K G R X w W pv wv qv ws qs F) {v' sv : Value} {qs' : List (List Int)} {F3 : Nat → Prop} (h3 : OII (X + 1) W' v' qs' F3) (k3 : Chg (own qv) W W') (hF3 : ∀ q, F3 q → F q ∨ own sv q ∨ W.heap.size ≤ q) (hF : ∀ q, own qv q → F q) (hs : ∀ q, own sv q → ¬ own wv q) :
    CsD b B K G R X w (W'.setCell ⟨X, 1, none⟩ v') pv wv v' ws qs' F3 ∧ BoxN W' X [wv, qv] := by
  have hl := h.lt
  have hXl := h.bx.lt
  have hR : ∀ q, own qv q → X + 1 ≤ q := fun q hq => (h.oq.lt q (hF q hq)).1
  have hbx : BoxN W' X [wv, qv] := h.bx.step k3 (fun e => by have := hR X e; omega)
  refine ⟨⟨(h.cur.step k3 (fun q hq => by have := hR q hq; omega)).step (chg1 W' X 1 v') (fun q e => by omega), (h.chg.step k3 (fun q hq hlt => by have := hR q hq; have := h.sz; omega)).setCell (p := ⟨X, 1, none⟩) (fun e => by have := h.sz; simp at e; omega) _,
    (h.bp.step k3 (fun e => by have := hR _ e; omega)).far ⟨X, 1, none⟩ _ (by simp; omega), (h.br.step k3 (fun e => by have := hR _ e; omega)).far ⟨X, 1, none⟩ _ (by simp; omega), hbx.set (i := 1) (by simp) v',
    (h.ow.step k3 (fun q hq e => h.ap q hq (hF q e))).step (chg1 W' X 1 v') (fun q hq e => by have := (h.ow.lt q hq).1; omega), h3.step (chg1 W' X 1 v') (fun q hq e => by have := (h3.lt q hq).1; omega), fun q hq e => ?_, h.lt, h.sz⟩, hbx⟩
  rcases hF3 q e with e | e | e
  · exact h.ap q hq e
  · exact hs q e hq
  · have := (h.ow.lt q hq).2; omega
/-- the weights -/
theorem CsD.setw (h : CsD b B K G R X w W pv wv qv ws qs F) (hc : Cur W' b B K') (hk : Chg (fun q => q = b) W W') {v' : Value} {ws' : List Int} (h3 : OI W.heap.size W' v' ws') :
    CsD b B K' G R X w (W'.setCell ⟨X, 0, none⟩ v') pv v' qv ws' qs F ∧ BoxN W' X [wv, qv] := by
  have hl := h.lt
  have hXl := h.bx.lt
  have h' := h.call hc hk
  refine ⟨⟨h'.cur.step (chg1 W' X 0 v') (fun q e => by omega), h'.chg.setCell (p := ⟨X, 0, none⟩) (fun e => by have := h.sz; simp at e; omega) _,
    h'.bp.far ⟨X, 0, none⟩ _ (by simp; omega), h'.br.far ⟨X, 0, none⟩ _ (by simp; omega), h'.bx.set (i := 0) (by simp) v',
    (h3.weak (by omega)).step (chg1 W' X 0 v') (fun q hq e => by have := (h3.lt q hq).1; omega), h'.oq.step (chg1 W' X 0 v') (fun q hq e => by have := (h'.oq.lt q hq).1; omega), fun q hq e => ?_, h.lt, h.sz⟩, h'.bx⟩
  have e1 := (h3.lt q hq).1
  have e2 := (h.oq.lt q e).2
  omega
/-- another first sequence -/
theorem CsD.put0 (h : CsD b B K G R X w W pv wv qv ws qs F) (hq : 0 < qs.length) : ∃ g c ra rc, qv = .slice (some ⟨g, 0, none⟩) qs.length c ∧ g < W.heap.size ∧ ¬ g = b ∧ X + 1 ≤ g ∧ W.cell? ⟨g, 0, none⟩ = some (.slice ra (qs.getD 0 []).length rc) ∧ W.frozen? ⟨g, 0, none⟩ = false ∧ OI (X + 1) W (.slice ra (qs.getD 0 []).length rc) (qs.getD 0 []) ∧
    ∀ (K' : Nat) (W' : World) (xv : Value) (l' : List Int), Cur W' b B K' → Chg (fun q => q = b) W W' → OI W.heap.size W' xv l' → ∃ F3, CsD b B K' G R X w (W'.setCell ⟨g, 0, none⟩ xv) pv wv (.slice (some ⟨g, 0, none⟩) qs.length c) ws (qs.set 0 l') F3 := by
  have hl := h.lt
  obtain ⟨g, c, x, rfl, hgc, hgf, hx, _, _, hFg, _⟩ := h.oq.putGrow hq
  obtain ⟨ra, rc, rfl, _⟩ := hx.view
  obtain ⟨hg1, hg2⟩ := h.oq.lt g hFg
  refine ⟨g, c, ra, rc, rfl, hg2, by omega, hg1, hgc, hgf, hx, fun K' W' xv l' hc hk hv => ?_⟩
  have h' := h.call hc hk
  have hxl : ∀ q, own xv q → W.heap.size ≤ q := fun q e => (hv.lt q e).1
  have hXl := h.bx.lt
  obtain ⟨F3, h3, h4⟩ := h'.oq.putRow hq (hv.weak (by omega)) (fun q e e' => by have e1 := hxl q e; have e2 := (h.oq.lt q e').2; omega) (fun e => by have := hxl g e; omega)
  refine ⟨F3, h'.cur.step (chg1 W' g 0 xv) (fun q e => by omega), h'.chg.setCell (p := ⟨g, 0, none⟩) (fun e => by have := h.sz; simp at e; omega) _,
    h'.bp.far ⟨g, 0, none⟩ _ (by simp; omega), h'.br.far ⟨g, 0, none⟩ _ (by simp; omega), h'.bx.far ⟨g, 0, none⟩ _ (by simp; omega),
    h'.ow.step (chg1 W' g 0 xv) (fun q hq e => h.ap q hq (e ▸ hFg)), h3, fun q hq e => ?_, h.lt, h.sz⟩
  rcases h4 q e with e1 | e1
  · exact h.ap q hq e1
  · have := (h.ow.lt q hq).2; have := hxl q e1; omega
theorem CsD.fin (h : CsD b B K G R X w W pv wv qv ws qs F) :
    (RCh (fun q => q < G) ((W.setCell ⟨R, 0, none⟩ wv).setCell ⟨R, 1, none⟩ qv) (.agg #[wv, qv]) qs ws ∧ Cur ((W.setCell ⟨R, 0, none⟩ wv).setCell ⟨R, 1, none⟩ qv) b B K ∧ Chg (fun q => q = b) w ((W.setCell ⟨R, 0, none⟩ wv).setCell ⟨R, 1, none⟩ qv)) ∧ BoxN ((W.setCell ⟨R, 0, none⟩ wv).setCell ⟨R, 1, none⟩ qv) R [wv, qv] := by
  have k := (chg1 W R 0 wv).trans (chg1 (W.setCell ⟨R, 0, none⟩ wv) R 1 qv)
  have hl := h.lt
  refine ⟨⟨⟨wv, qv, rfl, (h.ow.step k (fun q hq e => by have := (h.ow.lt q hq).1; omega)).read (fun q hq e => ?_), (h.oq.step k (fun q hq e => by have := (h.oq.lt q hq).1; omega)).read (fun q hq e => ?_)⟩, h.cur.step k (fun q e => by omega), h.chg.step k (fun q e hlt => by have := h.sz; omega)⟩, (h.br.set (i := 0) (by simp) wv).set (i := 1) (by simp) qv⟩
  · have := (h.ow.lt q hq).1; omega
  · have := (h.oq.lt q hq).1; omega
end
end Go.Proofs.YtndhijckbponkaaGreat
