import Derived.Test.YtdgcohoneijleaaGreatDoorCa
import Derived.Test.YtdgcohoneijleaaGreatDoorPkX15
import Derived.Test.YtdgcohoneijleaaGreatDoorPkX8
import Derived.Test.YtdgcohoneijleaaGreatDoorPkX7
import Derived.Test.YtdgcohoneijleaaGreatDoorPkX4
import Derived.Test.YtdgcohoneijleaaGreatDoorBase
set_option maxRecDepth 100000
namespace Go.Proofs.YtdgcohoneijleaaGreatDoor
open Go.RowKit
theorem OS.front {E : TypeId} {sz base : Nat} {w : World} {g m cap n : Nat} {cs : List Value} (h : OS E sz base w (.slice (some ⟨g, 0, none⟩) m cap) n cs) (i : Nat) (hi : i ≤ n) : OS E sz base w (.slice (some ⟨g, 0, none⟩) i cap) i (cs.take (i * sz)) := by
 have hcl := h.cl
 have hle : i * sz ≤ n * sz := Nat.mul_le_mul_right _ hi
 obtain ⟨hl, hlen, hc⟩ := h
 rcases hc with ⟨he, _⟩ | ⟨g', cap', cur, he, hb', hg, hn, hm, hs, ht⟩
 ·simp at he
 ·simp only [Value.slice.injEq, Option.some.injEq, Addr.mk.injEq, and_true] at he
  obtain ⟨rfl, rfl, rfl⟩ := he
  refine ⟨by omega, by rw [List.length_take]; omega, .inr ⟨g, cap, cur, rfl, hb', hg, by omega, hm, hs, ?_⟩⟩
  rw [← ht, List.take_take, Nat.min_eq_left hle]
theorem OS.setCells {E : TypeId} {sz base g m cap n : Nat} {cs : List Value} : ∀ (ds : List Value) (o : Nat) (w : World), OS E sz base w (.slice (some ⟨g, 0, none⟩) m cap) n cs → n * sz ≤ o → OS E sz base (w.setCells g o ds) (.slice (some ⟨g, 0, none⟩) m cap) n cs ∧ Chg (fun k => k = g) w (w.setCells g o ds)
 | [], _, w, h, _ => ⟨h, Chg.refl _ w⟩
 | d :: ds, o, w, h, ho => by
  obtain ⟨h1, h2⟩ := h.store o d
  rw [List.set_eq_of_length_le (by rw [h.cl]; exact ho)] at h1
  obtain ⟨h3, h4⟩ := OS.setCells ds (o + 1) _ h1 (by omega)
  exact ⟨h3, h2.trans h4⟩
theorem OS.room {E : TypeId} {sz base : Nat} {w : World} {g m cap n : Nat} {cs : List Value} (h : OS E sz base w (.slice (some ⟨g, 0, none⟩) m cap) n cs) (j : Nat) (hj : j < cap * sz) : (w.cell? ⟨g, j, none⟩).isSome = true := by
 obtain ⟨hl, hlen, hc⟩ := h
 rcases hc with ⟨he, _⟩ | ⟨g', cap', cur, he, hb', hg, hn, hm, hs, ht⟩
 ·simp at he
 ·simp only [Value.slice.injEq, Option.some.injEq, Addr.mk.injEq, and_true] at he
  obtain ⟨rfl, rfl, rfl⟩ := he
  rw [cell_of_row w g j cur E (0, 0) hg, Array.getElem?_eq_getElem (by omega)]; rfl
theorem wappF {ops : Array Oper} {rest : List Oper} {o : Oper} {a : Act} {Q : Exit → Act → World → Prop} {w : World} {T E : TypeId} {z : Value} {sz bytes : Nat} (t : El T E z sz bytes) (hgd : o.guard = none) (s x : Operand)
  (ho : o.op = .call { callee := .builtin .append, args := #[s, x], argTypes := #[T, T] })
  {base g n cap m c N : Nat} {cs ds : List Value} {ad : Addr} (hown : OS E sz base w (.slice (some ⟨g, 0, none⟩) n cap) n cs) (hl : ds.length = m * sz) (hnews : ∀ j u, ds[j]? = some u → w.cell? (ad.add j) = some u) (h1 : ∀ u ∈ ds, u.oneCell' = true)
  (hs : a.eval s = .slice (some ⟨g, 0, none⟩) n cap) (hx : a.eval x = .slice (some ad) m c) (hroom : N ≤ cap) (hN : n + m = N) (hN2 : N ≤ 1099511627776)
  (h : ∀ w', OS E sz base w' (.slice (some ⟨g, 0, none⟩) N cap) N (cs ++ ds) → Chg (fun k => k = g) w w' → wpList Tryz.prog ops Q rest (a.put o.dst (.slice (some ⟨g, 0, none⟩) N cap)) w') : wpList Tryz.prog ops Q (o :: rest) a w := by
 subst hN
 obtain ⟨i0, hi, hz0, hz1, hz2⟩ := t.info
 obtain ⟨w', hr, h2, h3⟩ := run_append_fits (P := Tryz.prog) w base T o.type E i0 sz t.und hi hz1 g n cap cs hown.2 ad m c ds hl hnews h1 hroom
 refine wpList_plain hgd fun _ hK => ?_
 unfold Oper.wp execOp
 simp only [ho, resolve, invoke, builtin, Sem.run_bind, Sem.run_pure, Result.andThen_ok, List.map_toArray, List.map_cons, List.map_nil, hs, hx, hr]
 exact hK _ _ (h w' ⟨hN2, h2⟩ (Chg.grown (v := .slice (some ⟨g, 0, none⟩) n cap) h3 |>.mono (fun k e _ => own_slice.1 e)))
def zPl : List Value := [.int .i64 0, .int .i64 0, .int .i64 0, .slice none 0 0, .slice none 0 0, .int .i64 0, .int .i64 0]
theorem run_zeroP (w : World) : (zeroValue 68).run Tryz.prog w = .ok (.agg #[.int .i64 0, .int .i64 0, .int .i64 0, .slice none 0 0, .slice none 0 0, .int .i64 0, .int .i64 0]) w := by kernel_rfl
theorem und_players : Tryz.prog.underlying 29 = some (.slice 68) := by kernel_rfl
theorem run_szP (w : World) : (sizeOf (Tryz.prog.elem 29)).run Tryz.prog w = .ok 7 w := by kernel_rfl
theorem und_playersE : Tryz.prog.underlying 29 = some (.slice (Tryz.prog.elem 29)) := by kernel_rfl
theorem run_clearP (w : World) (b o c : Nat) (ty : TypeId) (hc : ∀ j, j < 7 → (w.cell? ⟨b, o + j, none⟩).isSome = true) (hf : ∀ j, j < 7 → w.frozen? ⟨b, o + j, none⟩ = false) :
  (Builtin.clear_ #[29] ty #[.slice (some ⟨b, o, none⟩) 1 c]).run Tryz.prog w = .ok (.tuple #[]) (w.setCells b o zPl) := by
 have hst := run_storeCells_cells (P := Tryz.prog) b o zPl 0 w (by simpa [zPl] using hc) (by simpa [zPl] using hf) (by decide)
 have hz : (Builtin.zeroCells (Value.agg #[.int .i64 0, .int .i64 0, .int .i64 0, .slice none 0 0, .slice none 0 0, .int .i64 0, .int .i64 0]).cells 1).toList = zPl := by kernel_rfl
 simp only [Nat.add_zero] at hst
 simp [Builtin.clear_, run_underlying und_players, hz, hst]
set_option maxHeartbeats 2000000 in
theorem DeleteP_os (base g m cap i : Nat) (cs : List Value) (w : World) (h : OS 68 7 base w (.slice (some ⟨g, 0, none⟩) (m + 1) cap) (m + 1) cs) (hi : i ≤ m) (hm : m ≤ 1048576) (h1 : ∀ u ∈ cs, u.oneCell' = true) :
  Calls Tryz.prog 107 #[.slice (some ⟨g, 0, none⟩) (m + 1) cap, .int .i64 (i : Int), .int .i64 ((i : Int) + 1)] w (Ret fun r w' => r = .slice (some ⟨g, 0, none⟩) m cap ∧ OS 68 7 base w' r m (cs.take (i * 7) ++ cs.drop ((i + 1) * 7)) ∧ Chg (fun q => q = g) w w') := by
 obtain ⟨hcell, hfroz, hbg, hgl, _, hncap, hcapmax⟩ := h.at
 have hcl := h.cl
 have hi0 : (0 : Int) ≤ (i : Int) := Int.natCast_nonneg _
 have hi1 : (i : Int) + 1 ≤ ((m + 1 : Nat) : Int) := by omega
 have hi2 : ((m + 1 : Nat) : Int) ≤ (cap : Int) := by omega
 have hie : ¬ ((i : Int) = (i : Int) + 1) := by omega
 obtain ⟨X, c3, hX, hXn⟩ : ∃ (X : Addr) (c3 : Nat), (∀ w' : World, (Instr.slice 29 (.slice (some ⟨g, 0, none⟩) (m + 1) cap) (some (.int .i64 ((i : Int) + 1))) none none).run Tryz.prog w' = .ok (.slice (some X) (m - i) c3) w') ∧ Hid (∀ (W : World), Chg No w W → ∀ j u, (cs.drop ((i + 1) * 7))[j]? = some u → W.cell? (X.add j) = some u) := by
  by_cases hc : cap = i + 1
  ·refine ⟨⟨g, 0, none⟩, cap - (i + 1), fun w' => ?_, Lib.hid fun W hW j u hu => ?_⟩
   ·rw [run_slice_l w' _ _ (m + 1) cap und_playersE .i64 ((i : Int) + 1) (by omega) (by omega), run_szP]
    have : ((i : Int) + 1).toNat = i + 1 := by omega
    simp [Result.andThen, sliced, this, hc]
   ·have : cs.length ≤ (i + 1) * 7 := by rw [hcl]; omega
    rw [List.drop_eq_nil_of_le this] at hu; simp at hu
  ·refine ⟨⟨g, (i + 1) * 7, none⟩, cap - (i + 1), fun w' => ?_, Lib.hid fun W hW j u hu => ?_⟩
   ·rw [run_slice_l w' _ _ (m + 1) cap und_playersE .i64 ((i : Int) + 1) (by omega) (by omega), run_szP]
    have : ((i : Int) + 1).toNat = i + 1 := by omega
    simp [Result.andThen, sliced, this, hc, Addr.add]
   ·rw [List.getElem?_drop] at hu
    rw [Addr.add_lit, hW.cellD g _ hgl (fun e => e), hcell _ (List.getElem?_eq_some_iff.1 hu).1, List.getD_eq_getElem?_getD, hu]; rfl
 have hF : ∀ w' : World, (Instr.slice 29 (.slice (some ⟨g, 0, none⟩) (m + 1) cap) none (some (.int .i64 (i : Int))) none).run Tryz.prog w' = .ok (.slice (some ⟨g, 0, none⟩) i cap) w' := fun w' => by
  rw [run_slice_h w' _ _ (m + 1) cap und_playersE .i64 (i : Int) (by omega) (by omega), run_szP]
  simp [Result.andThen, sliced, Addr.add]
 have HXN := hXn
 have HO := Lib.hid h
 have H1 := Lib.hid h1
 have HCL := Lib.hid hcl
 have hcm : ¬ cap = m := by omega
 clear h hcell h1 hcl hfroz hXn
 go_enter Tryz.func107, Tryz.ntmps107
 go_wp2_with fail
 refine wp_region_K (S := fun _ => True) (k := 6) (by kernel_rfl) ?_
 have hS : (fun _ : World => True) w.drew := trivial
 have k0 := (Chg.refl No w).drew
 generalize w.drew = W at k0 hS ⊢
 refine wpAnyK_take0 0 (.slice (some ⟨g, 0, none⟩) (m + 1) cap) rfl (by kernel_rfl) (fun _ _ _ h => h) hS rfl (by intro w; go_simp) ?_
 simp only [zA, zC, zD, zE, zF, zG]
 refine wpAnyK_take0 1 (.int .i64 (i : Int)) rfl (by kernel_rfl) (fun _ _ _ h => h) hS rfl (by intro w; go_simp) ?_
 simp only [zA, zB, zC, zD, zE, zF, zG]
 refine wpAnyK_take0 2 (.slice (some ⟨g, 0, none⟩) i cap) rfl (by kernel_rfl) (fun _ _ _ h => h) hS rfl (by intro w; go_simp) ?_
 simp only [zA, zB, zC, zD, zE, zF, zG]
 refine wpAnyK_take0 3 (.slice (some ⟨g, 0, none⟩) (m + 1) cap) rfl (by kernel_rfl) (fun _ _ _ h => h) hS rfl (by intro w; go_simp) ?_
 simp only [zA, zB, zC, zD, zE, zF, zG]
 refine wpAnyK_take0 4 (.int .i64 ((i : Int) + 1)) rfl (by kernel_rfl) (fun _ _ _ h => h) hS rfl (by intro w; go_simp) ?_
 simp only [zA, zB, zC, zD, zE, zF, zG]
 refine wpAnyK_take0 5 (.slice (some X) (m - i) c3) rfl (by kernel_rfl) (fun _ _ _ h => h) hS rfl (by intro w; go_simp) ?_
 simp only [zA, zB, zC, zD, zE, zF, zG]
 refine wpAnyK_tail 6 rfl (by kernel_rfl) ?_
 simp only [List.drop_succ_cons, List.drop_zero]
 clear hS
 go_wp2_with (at_builtin; refine wappF elPlayers rfl (.tmp 22) (.tmp 25) rfl ((HO.out.keep k0).front i (by omega)) (ds := cs.drop ((i + 1) * 7)) (m := m - i) (N := m) (by rw [List.length_drop, HCL.out]; omega) (HXN.out _ k0) (fun u hu => H1.out u (List.mem_of_mem_drop hu)) rfl rfl (by omega) (by omega) (by omega) ?_)
 intro W1 o1 k1
 have hclr : ∀ ty, (Builtin.clear_ #[29] ty #[.slice (some ⟨g, m * 7, none⟩) 1 (cap - m)]).run Tryz.prog W1 = .ok (.tuple #[]) (W1.setCells g (m * 7) zPl) := fun ty =>
  run_clearP W1 g (m * 7) (cap - m) ty (fun j hj => o1.room _ (by omega)) (fun j _ => o1.at.2.1 _)
 obtain ⟨o2, k2⟩ := OS.setCells zPl (m * 7) W1 o1 (Nat.le_refl _)
 have HEND := Lib.hid (And.intro o2 (((k0.mono (fun _ e _ => e.elim)).trans k1).trans k2))
 clear o1 k1 o2 k2 hX hF
 go_wp2_with fail
 go_ret
 exact ⟨_, rfl, rfl, HEND.out.1, HEND.out.2⟩
def sg (i k : Nat) : Nat := if k < i then k else k + 1
theorem getD_erase (ls : List Pl) (i k : Nat) : (ls.eraseIdx i).getD k dPl = ls.getD (sg i k) dPl := by
 simp only [List.getD_eq_getElem?_getD, List.getElem?_eraseIdx, sg]
 split <;> rfl
theorem rowC_erase (ls : List Pl) (pf mf : Nat → Value) (i d : Nat) : (rowC ls pf mf (i + d + 1)).take (i * 7) ++ (rowC ls pf mf (i + d + 1)).drop ((i + 1) * 7) = rowC (ls.eraseIdx i) (fun k => pf (sg i k)) (fun k => mf (sg i k)) (i + d) := by
 induction d with
 | zero =>
  rw [List.drop_eq_nil_of_le (by rw [rowC_len]; omega), List.append_nil]
  simp only [Nat.add_zero]
  rw [rowC, List.take_append_of_le_length (by rw [rowC_len]; omega), List.take_of_length_le (by rw [rowC_len]; omega)]
  exact rowC_congr _ _ _ _ _ _ i (fun k hk => by rw [getD_erase]; simp [sg, hk])
 | succ d ih =>
  have e : i + (d + 1) + 1 = (i + d + 1) + 1 := by omega
  rw [e, rowC, List.take_append_of_le_length (by rw [rowC_len]; omega), List.drop_append_of_le_length (by rw [rowC_len]; omega), ← List.append_assoc, ih]
  have e2 : i + (d + 1) = (i + d) + 1 := by omega
  rw [e2, rowC]
  have e3 : sg i (i + d) = i + d + 1 := by unfold sg; rw [if_neg (by omega)]
  rw [getD_erase, e3]
theorem PA.one {base : Nat} {w : World} {v : Value} {ls : List Pl} {pf mf : Nat → Value} (h : PA base w v ls pf mf) : ∀ n, n ≤ ls.length → ∀ u ∈ rowC ls pf mf n, u.oneCell' = true
 | 0, _, u, hu => by cases hu
 | n + 1, hn, u, hu => by
  rw [rowC] at hu
  rcases List.mem_append.1 hu with hu | hu
  ·exact h.one n (by omega) u hu
  ·obtain ⟨a1, n1, c1, e1⟩ := (h.pg n hn).shape
   obtain ⟨a2, n2, c2, e2⟩ := (h.mq n hn).shape
   rw [e1, e2] at hu
   simp only [plC, List.mem_cons, List.not_mem_nil, or_false] at hu
   rcases hu with rfl | rfl | rfl | rfl | rfl | rfl | rfl <;> rfl
theorem sg_lt {i m k : Nat} (hk : k < m) : sg i k < m + 1 := by unfold sg; split <;> omega
theorem sg_inj {i j k : Nat} (h : j ≠ k) : sg i j ≠ sg i k := by unfold sg; split <;> split <;> omega
theorem PA.erase {base : Nat} {w w' : World} {v v' : Value} {ls : List Pl} {pf mf : Nat → Value} {S : Nat → Prop} (h : PA base w v ls pf mf) {i m : Nat} (hl : ls.length = m + 1) (hi : i ≤ m)
  (o : OS 68 7 base w' v' m ((rowC ls pf mf (m + 1)).take (i * 7) ++ (rowC ls pf mf (m + 1)).drop ((i + 1) * 7))) (hc : Chg S w w') (hS : ∀ q, S q → own v q ∨ w.heap.size ≤ q) (hn : ∀ q, own v' q → own v q ∨ w.heap.size ≤ q) :
  PA base w' v' (ls.eraseIdx i) (fun k => pf (sg i k)) (fun k => mf (sg i k)) := by
 have hle : (ls.eraseIdx i).length = m := by rw [List.length_eraseIdx, if_pos (by omega)]; omega
 have hno : ∀ k, k < ls.length → ∀ q, (own (pf k) q ∨ own (mf k) q) → ¬ S q := fun k hk q hq hs => by
  rcases hS q hs with h1 | h1
  ·exact h.far k hk q hq h1
  ·have := (h.inF q (.inr ⟨k, hk, hq⟩)).2; omega
 refine ⟨?_, fun k hk => ?_, fun k hk => ?_, fun k hk q hq hq' => ?_, fun k hk => ?_, fun j k hj hk hne => ?_⟩
 ·rw [hle]
  obtain ⟨d, rfl⟩ : ∃ d, m = i + d := ⟨m - i, by omega⟩
  rw [← rowC_erase]; exact o
 ·rw [hle] at hk
  rw [getD_erase]
  exact (h.pg (sg i k) (by rw [hl]; exact sg_lt hk)).step hc (fun q hq => hno _ (by rw [hl]; exact sg_lt hk) q (.inl hq))
 ·rw [hle] at hk
  rw [getD_erase]
  exact (h.mq (sg i k) (by rw [hl]; exact sg_lt hk)).step hc (fun q hq => hno _ (by rw [hl]; exact sg_lt hk) q (.inr hq))
 ·rw [hle] at hk
  rcases hn q hq' with h1 | h1
  ·exact h.far _ (by rw [hl]; exact sg_lt hk) q hq h1
  ·have := (h.inF q (.inr ⟨_, by rw [hl]; exact sg_lt hk, hq⟩)).2; omega
 ·rw [hle] at hk
  exact h.apart _ (by rw [hl]; exact sg_lt hk)
 ·rw [hle] at hj hk
  exact h.dis _ _ (by rw [hl]; exact sg_lt hj) (by rw [hl]; exact sg_lt hk) (sg_inj hne)
theorem FA.erase {v v' : Value} {m i : Nat} {pf mf : Nat → Value} {q b : Nat} (hn : own v' q → own v q ∨ b ≤ q) (h : FA v' m (fun k => pf (sg i k)) (fun k => mf (sg i k)) q) : FA v (m + 1) pf mf q ∨ b ≤ q := by
 rcases h with h | ⟨k, hk, h⟩
 ·rcases hn h with h | h
  ·exact .inl (.inl h)
  ·exact .inr h
 ·exact .inl (.inr ⟨sg i k, sg_lt hk, h⟩)
end Go.Proofs.YtdgcohoneijleaaGreatDoor
namespace Go.Proofs.YtdgcohoneijleaaGreatDoor
open Go.RowKit
def latT (ps : List Pl) : Nat → Int
 | 0 => 0
 | j + 1 => max (latT ps j) (ps.getD j dPl).frm
theorem latT_lt (ps : List Pl) (n : Int) (hn : 0 < n) (j : Nat) : latT ps j < n ↔ ∀ i, i < j → (ps.getD i dPl).frm < n := by
 induction j with
 | zero => simp [latT]; exact hn
 | succ j ih =>
  unfold latT
  rw [Int.max_lt, ih]
  constructor
  ·rintro ⟨h1, h2⟩ i hi
   by_cases e : i = j
   ·subst e; exact h2
   ·exact h1 i (by omega)
  ·intro h
   exact ⟨fun i hi => h i (by omega), h j (by omega)⟩
set_option maxHeartbeats 2000000 in
theorem l12Latest_any (v : Value) (t : To) (w : World) (h : RT No w v t) :
  Calls Tryz.prog 151 #[v] w (Ret fun r w' => r = .int .i64 (latT t.ps t.ps.length) ∧ Chg No w w') := by
 obtain ⟨it, ps, rq⟩ := t
 obtain ⟨pv, rv, rfl, hps, hrq⟩ := h
 simp only at hps hrq ⊢
 obtain ⟨ra, rn, rc, rfl⟩ := hrq.shape
 obtain ⟨a, cap, rfl, hcap, hmax, hlen, pf, mf, hl, hcl⟩ := id hps
 have HC := Lib.hid hcl
 clear hl hcl
 go_enter Tryz.func151, Tryz.ntmps151
 go_wp2_with fail
 refine box31 (R := fun W => Code.wp _ _ _ _ W) (fun W kW b0 => ?_)
 go_loopw [3, 4] (fun s z wr => ∃ j : Nat, j ≤ ps.length ∧ z = .int .i64 (j : Int) ∧ s = .int .i64 (latT ps j) ∧ Chg No w wr ∧ Box3 wr w.heap.size (.int .i64 it) (.slice a ps.length cap) (.slice ra rn rc)) (fun _ z _ => ps.length - (intOf z).toNat)
 case atStart => exact ⟨0, Nat.zero_le _, rfl, rfl, kW, b0⟩
 case round =>
  clear kW b0
  obtain ⟨j, hj, rfl, rfl, kk, b0⟩ := hrel
  have hj0 : (0 : Int) ≤ (j : Int) := Int.natCast_nonneg _
  obtain ⟨c0, c1, c2, _⟩ := id b0
  by_cases hlt : j < ps.length
  ·obtain ⟨b, off, rfl, _, hb, hcell⟩ := HC.out (by intro e; simp [e] at hlt)
   have h7 := (hcell j hlt).step kk hb (fun e => e)
   have g0 := h7.c0
   have hj1 : (j : Int) < (ps.length : Int) := by omega
   have hwj : IntKind.i64.wrap ((j : Int) + 1) = (j : Int) + 1 := IntWalk.i64_in _ (by omega)
   obtain ⟨y, hy⟩ : ∃ y, (ps.getD j dPl).frm = y := ⟨_, rfl⟩
   rw [hy] at g0
   have HS : Hid (latT ps (j + 1) = max (latT ps j) y) := Lib.hid (by rw [← hy]; rfl)
   clear h7 hcell hy
   go_wp2_with fail
   refine (l1Most_any _ _ wr).mono ?_
   rintro e w1 ⟨rfl, rfl⟩
   go_wp2_with fail
   go_round
   case measure => simp [intOf]; omega
   case rel => exact ⟨j + 1, by omega, by go_num, by rw [HS.out], kk, b0⟩
  ·have hje : j = ps.length := by omega
   subst hje
   go_wp2_with fail
   go_ret
   exact ⟨_, rfl, rfl, kk⟩
end Go.Proofs.YtdgcohoneijleaaGreatDoor
namespace Go.Proofs.YtdgcohoneijleaaGreatDoor
open Go.RowKit
set_option maxHeartbeats 2000000 in
theorem IndexFuncP_any (v : Value) (ls : List Pl) (w : World) (h : RPS No w v ls) (f : FuncId) (c0 : Value) (p : Pl → Bool)
  (hcf : ∀ x (w : World), (callFunc f #[x, c0]).run Tryz.prog w = .ok (.enter f #[x, c0]) w)
  (hp : ∀ (x : Pl) pv mv (W : World), Chg No w W → Calls Tryz.prog f #[.agg #[.int .i64 x.frm, .int .i64 x.ca.pol, .int .i64 x.ca.size, pv, mv, .int .i64 x.ca.hand, .int .i64 x.fa], c0] W (Ret fun r w' => r = .bool (p x) ∧ Chg No W w')) :
  Calls Tryz.prog 174 #[v, .func (.func f) #[] #[c0]] w (Ret fun r w' => (∃ i : Int, r = .int .i64 i ∧ (0 ≤ i ↔ ∃ j, j < ls.length ∧ p (ls.getD j dPl) = true)) ∧ Chg No w w') := by
 obtain ⟨a, cap, rfl, hcap, hmax, hlen, pf, mf, hl, hcl⟩ := id h
 have HP := Lib.hid hp
 have HC := Lib.hid hcl
 have HL := Lib.hid hl
 clear hp hcl hl
 go_enter Tryz.func174, Tryz.ntmps174
 go_wp2_with fail
 go_loopw [4, 8] (fun r z wr => ∃ j : Nat, j ≤ ls.length ∧ z = .int .i64 (j : Int) ∧ r = .int .i64 0 ∧ (∀ i, i < j → p (ls.getD i dPl) = false) ∧ Chg No w wr) (fun _ z _ => ls.length - (intOf z).toNat)
 case atStart => exact ⟨0, Nat.zero_le _, rfl, rfl, fun i hi => absurd hi (Nat.not_lt_zero i), Chg.refl _ _⟩
 case round =>
  obtain ⟨j, hj, rfl, rfl, hno, kk⟩ := hrel
  have HNO := Lib.hid hno
  clear hno
  have hj0 : (0 : Int) ≤ (j : Int) := Int.natCast_nonneg _
  by_cases hlt : j < ls.length
  ·obtain ⟨b, off, rfl, _, hb, hcell⟩ := HC.out (by intro e; simp [e] at hlt)
   have h7 := (hcell j hlt).step kk hb (fun e => e)
   obtain ⟨hpj, hmj⟩ := HL.out j hlt
   have hj1 : (j : Int) < (ls.length : Int) := by omega
   have hwj : IntKind.i64.wrap ((j : Int) + 1) = (j : Int) + 1 := IntWalk.i64_in _ (by omega)
   obtain ⟨y, hy⟩ : ∃ y, ls.getD j dPl = y := ⟨_, rfl⟩
   rw [hy] at h7 hpj hmj
   have HY := Lib.hid hy
   generalize pf j = pj at hpj h7
   generalize mf j = mj at hmj h7
   obtain ⟨ya, yn, yc, rfl⟩ := hpj.shape
   obtain ⟨ua, un, uc, rfl⟩ := hmj.shape
   obtain ⟨g0, g1, g2, g3, g4, g5, g6⟩ := id h7
   clear h7 hcell hy hpj hmj
   go_wp2_with fail
   refine (HP.out y _ _ wr kk).mono ?_
   rintro e w' ⟨_, rfl, rfl, k1⟩
   have kk1 := kk.keep k1
   cases hpy : p y
   ·have HPY := Lib.hid hpy
    clear hpy
    go_wp2_with fail
    go_round
    case measure => simp [intOf]; omega
    case rel =>
     refine ⟨j + 1, by omega, by go_num, rfl, fun i hi => ?_, kk1⟩
     by_cases e : i = j
     ·subst e; rw [HY.out]; exact HPY.out
     ·exact HNO.out i (by omega)
   ·have HPY := Lib.hid hpy
    clear hpy
    go_wp2_with fail
    go_ret
    exact ⟨_, rfl, ⟨_, rfl, ⟨fun _ => ⟨j, hlt, by rw [HY.out]; exact HPY.out⟩, fun _ => hj0⟩⟩, kk1⟩
  ·have hje : j = ls.length := by omega
   subst hje
   go_wp2_with fail
   go_ret
   exact ⟨_, rfl, ⟨_, rfl, ⟨fun e => absurd e (by omega), fun ⟨i, hi, hpi⟩ => absurd hpi (by rw [HNO.out i hi]; simp)⟩⟩, kk⟩
set_option maxHeartbeats 1000000 in
theorem ContainsFuncP_any (v : Value) (ls : List Pl) (w : World) (h : RPS No w v ls) (f : FuncId) (c0 : Value) (p : Pl → Bool)
  (hcf : ∀ x (w : World), (callFunc f #[x, c0]).run Tryz.prog w = .ok (.enter f #[x, c0]) w)
  (hp : ∀ (x : Pl) pv mv (W : World), Chg No w W → Calls Tryz.prog f #[.agg #[.int .i64 x.frm, .int .i64 x.ca.pol, .int .i64 x.ca.size, pv, mv, .int .i64 x.ca.hand, .int .i64 x.fa], c0] W (Ret fun r w' => r = .bool (p x) ∧ Chg No W w')) :
  Calls Tryz.prog 149 #[v, .func (.func f) #[] #[c0]] w (Ret fun r w' => (∃ b : Bool, r = .bool b ∧ (b = true ↔ ∃ j, j < ls.length ∧ p (ls.getD j dPl) = true)) ∧ Chg No w w') := by
 have HP := Lib.hid hp
 clear hp
 have HC := Lib.hid hcf
 clear hcf
 obtain ⟨pa, pn, pc, rfl⟩ := h.shape
 go_enter Tryz.func149, Tryz.ntmps149
 go_wp2_with fail
 refine (IndexFuncP_any _ ls w h f c0 p HC.out HP.out).mono ?_
 rintro e w' ⟨_, rfl, ⟨i, rfl, hi⟩, k1⟩
 by_cases h0 : 0 ≤ i
 ·have H := Lib.hid (hi.1 h0)
  clear hi
  go_wp2_with fail
  go_ret
  exact ⟨_, rfl, ⟨true, by simp, ⟨fun _ => H.out, fun _ => rfl⟩⟩, k1⟩
 ·have H := Lib.hid (fun e => h0 (hi.2 e))
  clear hi
  go_wp2_with fail
  go_ret
  exact ⟨_, rfl, ⟨false, by simp [h0], ⟨fun e => absurd e (by simp), fun e => absurd e H.out⟩⟩, k1⟩
set_option maxHeartbeats 1000000 in
theorem undo1_any (x : Pl) (pv mv : Value) (b : Nat) (left : Int) (w : World) (h : w.cell? ⟨b, 0, none⟩ = some (.int .i64 left)) :
  Calls Tryz.prog 150 #[.agg #[.int .i64 x.frm, .int .i64 x.ca.pol, .int .i64 x.ca.size, pv, mv, .int .i64 x.ca.hand, .int .i64 x.fa], .pointer (some ⟨b, 0, none⟩)] w (Ret fun r w' => r = .bool (decide (left < x.frm)) ∧ Chg No w w') := by
 have hb := World.block_lt_of_cell? w _ h
 have k0 := (Chg.refl No w).alloc (.cells #[.int .i64 x.frm, .int .i64 x.ca.pol, .int .i64 x.ca.size, pv, mv, .int .i64 x.ca.hand, .int .i64 x.fa] 68)
 have h1 := (k0.cellD b 0 hb (fun e => e)).trans h
 have bp := Box7.new w (.int .i64 x.frm) (.int .i64 x.ca.pol) (.int .i64 x.ca.size) pv mv (.int .i64 x.ca.hand) (.int .i64 x.fa) 68
 have g0 := bp.c0
 go_enter Tryz.func150, Tryz.ntmps150
 go_wp2_with fail
 go_ret
 exact ⟨_, rfl, rfl, k0⟩
end Go.Proofs.YtdgcohoneijleaaGreatDoor
namespace Go.Proofs.YtdgcohoneijleaaGreatDoor
open Go.RowKit
set_option maxHeartbeats 400000 in
theorem Contains_any (A : Nat → Prop) (v : Value) (l : List Int) (n : Int) (w : World) (h : RI A w v l) :
  Calls Tryz.prog 173 #[v, .int .i64 n] w fun e w' => e = .returned (.bool (hasB l n)) ∧ w = w' := by
 have H : Hid (decide (0 ≤ atI l n) = hasB l n) := Lib.hid (by
  rcases atI_spec l n with ⟨h1, k, _, h2⟩ | ⟨h1, h2⟩
  ·rw [h1, h2]; simp
  ·rw [h1, h2]; rfl)
 go_enter Tryz.func173, Tryz.ntmps173
 go_wp2_with fail
 refine (Index_any A v l n w h).mono ?_
 rintro e w' ⟨rfl, rfl⟩
 go_wp2_with fail
 go_ret
 exact ⟨ret_bool H.out, rfl⟩
end Go.Proofs.YtdgcohoneijleaaGreatDoor
namespace Go.Proofs.YtdgcohoneijleaaGreatDoor
theorem nod_inj {l : List Int} (h : l.Nodup) {i j : Nat} (hi : i < l.length) (hj : j < l.length) (e : l[i] = l[j]) : i = j := by
 have hp := List.pairwise_iff_getElem.1 h
 rcases Nat.lt_trichotomy i j with h1 | h1 | h1
 ·exact absurd e (hp i j hi hj h1)
 ·exact h1
 ·exact absurd e.symm (hp j i hj hi h1)
theorem gone_erase {l : List Int} (h : l.Nodup) {v : Nat} (hv : v < l.length) (y : Int) : (y ∈ l ∧ y ∉ l.eraseIdx v) ↔ y = l[v] := by
 rw [List.mem_eraseIdx_iff_getElem]
 constructor
 ·rintro ⟨h1, h2⟩
  obtain ⟨i, hi, rfl⟩ := List.mem_iff_getElem.1 h1
  by_cases e : i = v
  ·subst e; rfl
  ·exact absurd ⟨i, hi, e, rfl⟩ h2
 ·rintro rfl
  refine ⟨List.getElem_mem hv, ?_⟩
  rintro ⟨i, hi, hne, he⟩
  exact hne (nod_inj h hi hv he)
theorem nod_set {l : List Int} (h : l.Nodup) (v : Nat) {x : Int} (hx : x ∉ l) : (l.set v x).Nodup := by
 refine List.pairwise_iff_getElem.2 (fun i j hi hj hij => ?_)
 rw [List.length_set] at hi hj
 rw [List.getElem_set, List.getElem_set]
 split
 ·split
  ·omega
  ·exact fun e => hx (e ▸ List.getElem_mem hj)
 ·split
  ·exact fun e => hx (e ▸ List.getElem_mem hi)
  ·exact fun e => absurd (nod_inj h hi hj e) (by omega)
theorem nod_erase {l : List Int} (h : l.Nodup) (v : Nat) : (l.eraseIdx v).Nodup := h.sublist (List.eraseIdx_sublist l v)
theorem nod_front {l : List Int} (h : l.Nodup) (v : Nat) (hv : v < l.length) : (l[v] :: l.eraseIdx v).Nodup :=
 List.nodup_cons.2 ⟨((gone_erase h hv l[v]).2 rfl).2, nod_erase h v⟩
theorem hasB_false {l : List Int} {x : Int} : hasB l x = false ↔ x ∉ l := by simp [hasB]
theorem hasB_true {l : List Int} {x : Int} : hasB l x = true ↔ x ∈ l := by simp [hasB]
theorem nod_step {c : Ca} (h : c.pages.Nodup) (x : Int) : (stepC c x).pages.Nodup := by
 unfold stepC
 split
 ·rename_i hh
  rcases atI_spec c.pages x with ⟨_, k, hk, he⟩ | ⟨hn, _⟩
  ·rw [he]
   unfold hitC
   split
   ·simp only [Int.toNat_natCast, List.getD_eq_getElem?_getD, List.getElem?_eq_getElem hk, Option.getD_some]
    exact nod_front h k hk
   ·split
    ·exact h
    ·split <;> exact h
  ·rw [hn] at hh; cases hh
 ·rename_i hh
  have hx : x ∉ c.pages := hasB_false.1 (by simpa using hh)
  unfold faultC
  split
  ·unfold clockC
   split
   ·rw [List.nodup_append]
    exact ⟨h, by simp, fun a ha b hb => by
     rw [List.mem_singleton] at hb
     subst hb
     exact fun e => hx (e ▸ ha)⟩
   ·exact nod_set h _ hx
  ·refine List.nodup_cons.2 ⟨?_, ?_⟩
   ·split
    ·split
     ·simp
     ·exact fun hm => hx (List.mem_of_mem_eraseIdx hm)
    ·exact hx
   ·split
    ·split
     ·simp
     ·exact nod_erase h _
    ·exact h
theorem nod_run {c : Ca} (h : c.pages.Nodup) (l : List Int) : (runC c l).pages.Nodup := by
 induction l generalizing c with
 | nil => exact h
 | cons x l ih => exact ih (nod_step h x)
end Go.Proofs.YtdgcohoneijleaaGreatDoor
