import Derived.Test.YtndhijckbponkaaGreatPkX9
import Derived.Test.YtndhijckbponkaaGreatPkX5
/- tables that are owned: a row more, a cell put, a row put -/
namespace Go.Proofs.YtndhijckbponkaaGreat
open Go.RowKit

/-- append(table, row) -/
theorem wappR {ops : Array Oper} {rest : List Oper} {o : Oper} {a : Act} {Q : Exit → Act → World → Prop} {w : World} (hgd : o.guard = none) (s x : Operand)
    (ho : o.op = .call { callee := .builtin .append, args := #[s, x], argTypes := #[24, 24] })
    {base : Nat} {v xv : Value} {ll : List (List Int)} {l : List Int} {F : Nat → Prop} {e : TypeId} (hown : OII base w v ll F) (hx : OI base w xv l) (hd : ∀ q, own xv q → ¬ F q) (hs : a.eval s = v) (hx' : a.eval x = .slice (some ⟨w.heap.size, 0, none⟩) 1 1)
    (hl : ll.length < 1099511627776) (hbase : base ≤ w.heap.size)
    (h : ∀ v' w' F', OII base w' v' (ll ++ [l]) F' → Chg (own v) w w' → (∀ q, F' q → F q ∨ own xv q ∨ w.heap.size ≤ q) → (∀ q, own v q → F q) → wpList Tryz.prog ops Q rest (a.put o.dst v') w') :
    wpList Tryz.prog ops Q (o :: rest) a (w.alloc (.cells #[xv] e)) := by
  obtain ⟨vs, h1, h2, h3, h4, h5, h6⟩ := hown
  have hone : ∀ u ∈ (#[xv] : Array Value).toList, u.oneCell' = true := fun u hu => by
    simp only [List.mem_singleton] at hu
    subst hu
    obtain ⟨_, _, rfl, _⟩ := hx.view
    rfl
  refine wappS1 elInts (by omega) hgd s x ho h2 rfl hone hs hx' hl hbase (fun v' w' h7 h8 h9 => ?_)
  obtain ⟨F', hF, hF'⟩ := OII.app h1 h3 h4 h5 h6 hx hd h7 h8 h9
  exact h v' w' F' hF h8 hF' (fun q hq => (h6 q).2 (.inl hq))
/-- a row of an owned table, its cells, and what a store there leaves -/
theorem OII.at {base : Nat} {w : World} {v : Value} {ll : List (List Int)} {F : Nat → Prop} (h : OII base w v ll F) {i : Nat} (hi : i < ll.length) (hp : 0 < (ll.getD i []).length) :
    ∃ g c r rc, v = .slice (some ⟨g, 0, none⟩) ll.length c ∧ g < w.heap.size ∧ r < w.heap.size ∧ g ≠ r ∧ base ≤ g ∧ base ≤ r ∧ w.cell? ⟨g, i, none⟩ = some (.slice (some ⟨r, 0, none⟩) (ll.getD i []).length rc) ∧ (∀ j, j < (ll.getD i []).length → w.cell? ⟨r, j, none⟩ = some (.int .i64 ((ll.getD i []).getD j 0))) ∧
      (∀ j, w.frozen? ⟨r, j, none⟩ = false) ∧ F g ∧ F r ∧ (∀ j x, OII base (w.setCell ⟨r, j, none⟩ (.int .i64 x)) v (ll.set i ((ll.getD i []).set j x)) F) := by
  obtain ⟨vs, h1, h2, h3, h4, h5, h6⟩ := h
  obtain ⟨a, cap, hv, hc1, hc2, hc3, hc4⟩ := h2.view
  obtain ⟨g, rfl, hg1, hg2, hg3, hg4⟩ := hc4 (by omega)
  have hri := h3 i hi
  obtain ⟨ra, rc, hrv, hr1, hr2, hr3⟩ := hri.view
  obtain ⟨r, rfl, hr4, hr5, hr6, hr7⟩ := hr3 (by omega)
  have hFg : F g := (h6 g).2 (.inl (by rw [hv]; exact own_slice.2 rfl))
  have hor : own (vs.getD i undef) r := by rw [hrv]; exact own_slice.2 rfl
  have hFr : F r := (h6 r).2 (.inr ⟨i, hi, hor⟩)
  have hog : own v g := by rw [hv]; exact own_slice.2 rfl
  have hgr : g ≠ r := fun e => h4 i hi g hog (e ▸ hor)
  refine ⟨g, cap, r, rc, hv, hg2, hr5, hgr, hg1, hr4, ?_, hr6, hr7, hFg, hFr, fun j x => ?_⟩
  · rw [hg3 i (by omega), hrv]
  · have hch : Chg (fun q => q = r) w (w.setCell ⟨r, j, none⟩ (.int .i64 x)) := chg1 w r j _
    refine ⟨vs, by rw [List.length_set]; exact h1, by rw [List.length_set]; exact h2.step hch (fun q hq e => h4 i hi q hq (by rw [e]; exact hor)), fun k hk => ?_, fun k hk => h4 k (by rw [List.length_set] at hk; exact hk), fun k m hkm hm => h5 k m hkm (by rw [List.length_set] at hm; exact hm), fun q => by rw [List.length_set]; exact h6 q⟩
    rw [List.length_set] at hk
    by_cases e : k = i
    · subst e
      have hs : (ll.set k ((ll.getD k []).set j x)).getD k [] = (ll.getD k []).set j x := by
        rw [List.getD_eq_getElem?_getD, List.getElem?_set_self hk]; rfl
      rw [hs, hrv]
      rw [hrv] at hri
      exact (hri.store j x).1
    · have hs : (ll.set i ((ll.getD i []).set j x)).getD k [] = ll.getD k [] := by
        rw [List.getD_eq_getElem?_getD, List.getElem?_set_ne (fun e' => e e'.symm), ← List.getD_eq_getElem?_getD]
      rw [hs]
      refine (h3 k hk).step hch (fun q hq e' => ?_)
      subst e'
      rcases Nat.lt_or_ge k i with hlt | hge
      · exact h5 k i hlt hi q hq hor
      · exact h5 i k (Nat.lt_of_le_of_ne hge (fun e' => e e'.symm)) hk q hor hq
/-- another row in the place of a row -/
theorem OII.putRow {base : Nat} {w : World} {g c : Nat} {n : Nat} {ll : List (List Int)} {l : List Int} {F : Nat → Prop} {xv : Value} (h : OII base w (.slice (some ⟨g, 0, none⟩) n c) ll F) {i : Nat} (hi : i < ll.length) (hx : OI base w xv l) (hd : ∀ q, own xv q → F q → ∃ x, w.cell? ⟨g, i, none⟩ = some x ∧ own x q) (hg : ¬ own xv g) :
    ∃ F', OII base (w.setCell ⟨g, i, none⟩ xv) (.slice (some ⟨g, 0, none⟩) n c) (ll.set i l) F' ∧ ∀ q, F' q → F q ∨ own xv q := by
  obtain ⟨vs, h1, h2, h3, h4, h5, h6⟩ := h
  have hog : own (.slice (some ⟨g, 0, none⟩) n c) g := own_slice.2 rfl
  obtain ⟨hs1, hs2⟩ := h2.store i xv
  obtain ⟨hcell, _⟩ := h2.at
  have hci := hcell i (by omega)
  have hnot : ∀ q, own xv q → ∀ k, k < ll.length → k ≠ i → ¬ own (vs.getD k undef) q := fun q hq k hk hne hk2 => by
    obtain ⟨x, hx1, hx2⟩ := hd q hq ((h6 q).2 (.inr ⟨k, hk, hk2⟩))
    rw [hci] at hx1
    cases hx1
    rcases Nat.lt_or_ge k i with hlt | hge
    · exact h5 k i hlt hi q hk2 hx2
    · exact h5 i k (Nat.lt_of_le_of_ne hge (fun e' => hne e'.symm)) hk q hx2 hk2
  have hset : ∀ k, (vs.set i xv).getD k undef = if k = i then xv else vs.getD k undef := fun k => by
    by_cases e : k = i
    · subst e
      rw [if_pos rfl, List.getD_eq_getElem?_getD, List.getElem?_set_self (by omega)]; rfl
    · rw [if_neg e, List.getD_eq_getElem?_getD, List.getElem?_set_ne (fun e' => e e'.symm), ← List.getD_eq_getElem?_getD]
  have hsl : ∀ k, k < ll.length → (ll.set i l).getD k [] = if k = i then l else ll.getD k [] := fun k hk => by
    by_cases e : k = i
    · subst e
      rw [if_pos rfl, List.getD_eq_getElem?_getD, List.getElem?_set_self hk]; rfl
    · rw [if_neg e, List.getD_eq_getElem?_getD, List.getElem?_set_ne (fun e' => e e'.symm), ← List.getD_eq_getElem?_getD]
  refine ⟨fun q => own (.slice (some ⟨g, 0, none⟩) n c) q ∨ ∃ k, k < ll.length ∧ own ((vs.set i xv).getD k undef) q, ⟨vs.set i xv, by rw [List.length_set, List.length_set]; exact h1, by rw [List.length_set]; exact hs1, fun k hk => ?_, fun k hk q hq => ?_, fun k m hkm hm q hq => ?_, fun q => by rw [List.length_set]⟩, fun q hq => ?_⟩
  · rw [List.length_set] at hk
    rw [hset k, hsl k hk]
    by_cases e : k = i
    · rw [if_pos e, if_pos e]
      exact hx.step hs2 (fun q hq e' => hg (e' ▸ hq))
    · rw [if_neg e, if_neg e]
      exact (h3 k hk).step hs2 (fun q hq e' => h4 k hk g hog (e' ▸ hq))
  · rw [List.length_set] at hk
    rw [hset k]
    by_cases e : k = i
    · rw [if_pos e]
      exact fun hq' => hg ((own_slice.1 hq) ▸ hq')
    · rw [if_neg e]
      exact h4 k hk q hq
  · rw [List.length_set] at hm
    rw [hset k] at hq
    rw [hset m]
    by_cases e : k = i
    · rw [if_pos e] at hq
      rw [if_neg (by omega)]
      exact hnot q hq m hm (by omega)
    · rw [if_neg e] at hq
      by_cases e2 : m = i
      · rw [if_pos e2]
        exact fun hq' => hnot q hq' k (by omega) e hq
      · rw [if_neg e2]
        exact h5 k m hkm hm q hq
  · rcases hq with hq | ⟨k, hk, hq⟩
    · exact .inl ((h6 q).2 (.inl hq))
    · rw [hset k] at hq
      by_cases e : k = i
      · rw [if_pos e] at hq; exact .inr hq
      · rw [if_neg e] at hq; exact .inl ((h6 q).2 (.inr ⟨k, hk, hq⟩))
def Sq (n : Nat) (ll : List (List Int)) : Prop := ll.length = n ∧ ∀ i, i < n → (ll.getD i []).length = n
set_option maxRecDepth 100000 in
set_option maxHeartbeats 2000000 in
theorem l6Uniform_any (n : Nat) (d : Int) (w : World) (hn : n ≤ 1000) :
    Calls Tryz.prog 77 #[.int .i64 (n : Int), .int .i64 d] w (Ret fun r w' => (∃ v ll F, r = .agg #[v] ∧ Sq n ll ∧ OII w.heap.size w' v ll F) ∧ Chg No w w') := by
  have h0 := OII.zero (base := w.heap.size) (w := w.alloc (.cells #[.slice none 0 0] 49)) (by simp)
  rw [show (w.alloc (.cells #[.slice none 0 0] 49)).heap.size = w.heap.size + 1 by simp] at h0
  have h1 := h0.keep ((Chg.refl No _).alloc (.cells #[.slice (some ⟨w.heap.size + 1, 0, none⟩) 0 0] 49))
  clear h0
  go_enter Tryz.func77, Tryz.ntmps77
  go_wp2_with fail
  refine bx3 (R := fun W => OII w.heap.size W (.slice (some ⟨w.heap.size + 1, 0, none⟩) 0 0) [] (fun q => q = w.heap.size + 1) → _) (fun W0 k0 b0 _ b2 h1 => ?_) h1
  obtain ⟨S, hS⟩ : ∃ S, w.heap.size + 1 + 1 = S := ⟨_, rfl⟩
  have hS0 : w.heap.size < S := by omega
  have hFS : ∀ q, q = w.heap.size + 1 → ¬ q = S ∧ ¬ q = w.heap.size := fun q hq => by omega
  rw [hS] at b2 ⊢
  clear hS
  go_loopw [6] (fun z wr => ∃ (i : Nat) (v : Value) (ll : List (List Int)) (F : Nat → Prop), i ≤ n ∧ z = .int .i64 (i : Int) ∧ ll.length = i ∧ (∀ j, j < i → (ll.getD j []).length = n) ∧ OII w.heap.size wr v ll F ∧ (∀ q, F q → ¬ q = S ∧ ¬ q = w.heap.size) ∧ BoxN wr w.heap.size [.slice none 0 0] ∧ BoxN wr S [v] ∧ Chg No w wr) (fun z _ => n - (intOf z).toNat)
  case atStart => exact ⟨0, _, [], _, Nat.zero_le _, rfl, rfl, fun j hj => absurd hj (Nat.not_lt_zero _), h1, hFS, b0, b2, k0⟩
  case round =>
    obtain ⟨i, v, ll, F, hi, rfl, hll, hrow, hO, hF, b0, b2, kr⟩ := hrel
    have hi0 : (0 : Int) ≤ (i : Int) := Int.natCast_nonneg _
    have HR := Lib.hid hrow
    have HFF := Lib.hid hF
    have HLL := Lib.hid hll
    clear hrow hF hll h1 hFS
    by_cases hlt : i < n
    · have hi1 : (i : Int) < (n : Int) := by omega
      have hwi : IntKind.i64.wrap ((i : Int) + 1) = (i : Int) + 1 := IntWalk.i64_in _ (by omega)
      have hrz := OI.zero (base := wr.heap.size) (w := wr) (Nat.le_refl _)
      have ka := (Chg.refl No wr).alloc (.cells #[] 3)
      obtain ⟨wo, hwo⟩ : ∃ wo : World, wo = wr := ⟨_, rfl⟩
      go_wp2_with fail
      rw [← hwo] at hrz ka hO b0 b2 kr ⊢
      clear hwo
      go_loopw [7, 8] (fun o z wq => ∃ (j : Nat) (l : List Int), j ≤ n ∧ z = .int .i64 (j : Int) ∧ l.length = j ∧ OI wo.heap.size wq o l ∧ Chg No wo wq) (fun _ z _ => n - (intOf z).toNat)
      case atStart => exact ⟨0, [], Nat.zero_le _, rfl, rfl, hrz, ka⟩
      case round =>
        obtain ⟨j, l, hj, rfl, hlj, ho, kq⟩ := hrel
        have hj0 : (0 : Int) ≤ (j : Int) := Int.natCast_nonneg _
        have z1 := kq.size
        by_cases hltj : j < n
        · have hj1 : (j : Int) < (n : Int) := by omega
          have hwj : IntKind.i64.wrap ((j : Int) + 1) = (j : Int) + 1 := IntWalk.i64_in _ (by omega)
          have hl9 : l.length < 17592186044416 := by omega
          have HLJ := Lib.hid hlj
          clear hlj
          by_cases hij : i = j
          · subst hij
            go_wp2_with (at_builtin; refine wapp1 rfl (.tmp 25) (.tmp 26) rfl ho rfl rfl hl9 z1 ?_)
            intro v2 w2 h2 k2 f2
            go_wp2_with fail
            go_round
            case rel => exact ⟨i + 1, l ++ [0], by omega, by go_num, by rw [List.length_append, HLJ.out]; rfl, h2, kq.own k2 ho (Nat.le_refl _)⟩
            case measure => simp [intOf]; omega
          · have hne : ¬ ((i : Int) = (j : Int)) := by omega
            go_wp2_with (at_builtin; refine wapp1 rfl (.tmp 28) (.tmp 30) rfl ho rfl rfl hl9 z1 ?_)
            intro v2 w2 h2 k2 f2
            go_wp2_with fail
            go_round
            case rel => exact ⟨j + 1, l ++ [d], by omega, by go_num, by rw [List.length_append, HLJ.out]; rfl, h2, kq.own k2 ho (Nat.le_refl _)⟩
            case measure => simp [intOf]; omega
        · have hje : j = n := by omega
          subst hje
          obtain ⟨oa, oc, rfl, _⟩ := ho.view
          rw [hlj] at ho ⊢
          have HLJ := Lib.hid hlj
          clear hlj
          have hO2 := hO.keep kq
          obtain ⟨va, vc, rfl⟩ := hO2.readNo.shape
          have b2q := b2.keep kq
          have g2 := b2q.c 0 _ rfl
          have f2 := b2q.fr 0
          have hzr := kr.size
          have hbase : w.heap.size ≤ wr.heap.size := by omega
          have hlen : ll.length < 1099511627776 := by rw [HLL.out]; omega
          have hd : ∀ q, own (.slice oa j oc) q → ¬ F q := fun q hq hF => by have := (ho.lt q hq).1; have := (hO.lt q hF).2; omega
          have hSl := b2.lt
          go_wp2_with (at_builtin; refine wappR rfl (.tmp 33) (.tmp 35) rfl hO2 (ho.weak hzr) hd rfl rfl hlen hbase ?_)
          intro v3 w3 F3 h3 k3 hF3 hFo
          have hnS : ¬ own (.slice va ll.length vc) S := fun e => (HFF.out S (hFo S e)).1 rfl
          have g3 := (b2q.step k3 hnS).c 0 _ rfl
          have f3 := (b2q.step k3 hnS).fr 0
          have hF3' : ∀ q, F3 q → ¬ q = S ∧ ¬ q = w.heap.size := fun q hq => by
            rcases hF3 q hq with h | h | h
            · exact HFF.out q h
            · have := (ho.lt q h).1; have := b2.lt; omega
            · have := b2.lt; omega
          have b0' := ((b0.keep kq).step k3 (fun e => (HFF.out _ (hFo _ e)).2 rfl)).far ⟨S, 0, none⟩ v3 (by simp; omega)
          have b2' := (b2q.step k3 hnS).set (i := 0) (by simp) v3
          have h3' := h3.step (chg1 w3 S 0 v3) (fun q hq e => (hF3' q hq).1 e)
          have kr' : Chg No w (w3.setCell ⟨S, 0, none⟩ v3) := ((kr.keep kq).step k3 (fun q hq hl => by have := (hO2.lt q (hFo q hq)).1; omega)).setCell (p := ⟨S, 0, none⟩) (fun h => by simp at h; omega) v3
          obtain ⟨v3a, v3c, rfl⟩ := h3.readNo.shape
          clear g2 f2 hO2
          go_wp2_with fail
          go_round
          case rel =>
            have hL1 : (ll ++ [l]).length = ll.length + 1 := by rw [List.length_append]; rfl
            rw [hL1] at h3' b0' b2' kr'
            refine ⟨i + 1, _, ll ++ [l], F3, by omega, by go_num, by rw [List.length_append, HLL.out]; rfl, fun q hq => ?_, h3', hF3', b0', b2', kr'⟩
            by_cases e : q < i
            · rw [getD_snoc_lt _ _ _ (by rw [HLL.out]; exact e)]; exact HR.out q e
            · have : q = ll.length := by rw [HLL.out]; omega
              rw [this, getD_snoc_eq]; exact HLJ.out
          case measure => simp [intOf]; omega
    · have hie : i = n := by omega
      subst hie
      have g2 := b2.c 0 _ rfl
      have g0 := b0.c 0 _ rfl
      have f0 := b0.fr 0
      obtain ⟨va, vc, rfl⟩ := hO.readNo.shape
      have b0' := b0.set (i := 0) (by simp) (.slice va ll.length vc)
      have z0 := b0'.c 0 _ rfl
      have h3' := hO.step (chg1 wr w.heap.size 0 (.slice va ll.length vc)) (fun q hq e => (HFF.out q hq).2 e)
      have kr' : Chg No w (wr.setCell ⟨w.heap.size, 0, none⟩ (.slice va ll.length vc)) := kr.setCell (p := ⟨w.heap.size, 0, none⟩) (fun h => by simp at h) _
      go_wp2_with fail
      refine bodyPost_ret (v := .agg #[.slice va ll.length vc]) (by simp [results, Tryz.results77, go_sem, z0]) rfl ?_
      exact ⟨_, rfl, ⟨_, rfl, ll, ⟨HLL.out, HR.out⟩, F, h3'⟩, kr'⟩
end Go.Proofs.YtndhijckbponkaaGreat
