import Derived.Test.YtndhijckbponkaaUc
import Derived.Test.YtndhijckbponkaaRq
import Derived.Test.YtndhijckbponkaaRm
import Derived.Test.YtndhijckbponkaaRk
import Derived.Test.YtndhijckbponkaaRa
import Derived.Test.YtndhijckbponkaaPg
/- a letter of a code -/
namespace Go.Proofs.Ytndhijckbponkaa
open Go.RowKit

def atC (l : List Int) (i : Nat) : Int := if i < l.length then l.getD i 0 else ((i * 7 + l.length) % 256 : Nat)
/-- a code that is read, letters told -/
def CodeL (w : World) (v : Value) (l : List Int) : Prop := RF No w v 1 l.length (l.map (Value.int .u8)) ∧ ∀ x ∈ l, 0 ≤ x ∧ x ≤ 255
theorem CodeL.keep {w w' : World} {v : Value} {l : List Int} (h : CodeL w v l) (hc : Chg No w w') : CodeL w' v l := ⟨h.1.keep hc, h.2⟩
theorem Code.list {w : World} {v : Value} {n : Nat} (h : Code w v n) : ∃ l, l.length = n ∧ CodeL w v l := by
  obtain ⟨l, h1, h2, h3⟩ := h
  subst h1
  exact ⟨l, rfl, h2, h3⟩
theorem atC_in {w : World} {v : Value} {l : List Int} (h : CodeL w v l) (i : Nat) : 0 ≤ atC l i ∧ atC l i ≤ 255 := by
  unfold atC
  split
  · rename_i hi
    rw [List.getD_eq_getElem?_getD, List.getElem?_eq_getElem hi]
    exact h.2 _ (List.getElem_mem hi)
  · omega
set_option maxRecDepth 100000 in
set_option maxHeartbeats 1000000 in
theorem vAt_any (v : Value) (l : List Int) (k : Nat) (w : World) (h : CodeL w v l) (hn : l.length ≤ 70000) (hk : k ≤ 200) :
    Calls Try.prog 33 #[v, .int .i64 (k : Int)] w fun e w' => e = .returned (.int .i64 (atC l k)) ∧ w = w' := by
  obtain ⟨h1, hx⟩ := h
  obtain ⟨a, c, rfl, _, hc, _, _, hcell⟩ := h1
  have hk0 : (0 : Int) ≤ (k : Int) := Int.natCast_nonneg _
  by_cases hlt : k < l.length
  · have he : atC l k = l.getD k 0 := by unfold atC; rw [if_pos hlt]
    obtain ⟨b, off, rfl, _, _, hce⟩ := hcell (by omega)
    have hb := hx (l.getD k 0) (by rw [List.getD_eq_getElem?_getD, List.getElem?_eq_getElem hlt]; exact List.getElem_mem hlt)
    have hg : w.cell? ⟨b, off + k, none⟩ = some (.int .u8 (l.getD k 0)) := by
      rw [hce k (by rw [List.length_map]; exact hlt)]
      simp [List.getD_eq_getElem?_getD, hlt]
    have HE := Lib.hid he
    obtain ⟨x, hxx⟩ : ∃ x, l.getD k 0 = x := ⟨_, rfl⟩
    rw [hxx] at hg hb he HE
    clear hcell hce hx he
    go_enter Try.func33, Try.ntmps33
    go_wp2_with fail
    go_ret
    rw [HE.out]
    exact ⟨rfl, rfl⟩
  · have he : atC l k = ((k * 7 + l.length) % 256 : Nat) := by unfold atC; rw [if_neg hlt]
    have HE := Lib.hid he
    clear hcell hx he
    go_enter Try.func33, Try.ntmps33
    go_wp2_with fail
    go_ret
    rw [HE.out]
    exact ⟨congrArg (fun x => Ending.returned (.int .i64 x)) (by omega), rfl⟩
end Go.Proofs.Ytndhijckbponkaa

/- the law FnYao: what it says of numbers; vAtMost -/
namespace Go.Proofs.Ytndhijckbponkaa
open Go.RowKit

set_option maxRecDepth 100000 in
set_option maxHeartbeats 1000000 in
theorem vAtMost_any (n1 d1 n2 d2 : Int) (w : World) (h1 : 0 ≤ n1 ∧ n1 ≤ 1000000) (h2 : 0 ≤ d1 ∧ d1 ≤ 100000) (h3 : 0 ≤ n2 ∧ n2 ≤ 1000000) (h4 : 0 ≤ d2 ∧ d2 ≤ 100000) :
    Calls Try.prog 35 #[.agg #[.int .i64 n1, .int .i64 d1], .agg #[.int .i64 n2, .int .i64 d2]] w (Ret fun r w' => r = .bool (decide (n1 * d2 ≤ n2 * d1)) ∧ Chg No w w') := by
  obtain ⟨x, hx⟩ : ∃ x, n1 * d2 = x := ⟨_, rfl⟩
  obtain ⟨y, hy⟩ : ∃ y, n2 * d1 = y := ⟨_, rfl⟩
  have hx9 : 0 ≤ x ∧ x ≤ 100000000000 := by
    rw [← hx]
    refine ⟨Int.mul_nonneg h1.1 h4.1, ?_⟩
    have e1 := Int.mul_le_mul_of_nonneg_left h4.2 h1.1
    omega
  have hy9 : 0 ≤ y ∧ y ≤ 100000000000 := by
    rw [← hy]
    refine ⟨Int.mul_nonneg h3.1 h2.1, ?_⟩
    have e1 := Int.mul_le_mul_of_nonneg_left h2.2 h3.1
    omega
  have hw1 : IntKind.i64.wrap (n1 * d2) = x := by rw [hx]; exact IntWalk.i64_in _ (by omega)
  have hw2 : IntKind.i64.wrap (n2 * d1) = y := by rw [hy]; exact IntWalk.i64_in _ (by omega)
  have HX := Lib.hid (And.intro hx hy)
  clear hx hy
  go_enter Try.func35, Try.ntmps35
  go_wp2_with fail
  go_ret
  exact ⟨_, rfl, by rw [HX.out.1, HX.out.2]; rfl, ((Chg.refl No w).alloc _).alloc _⟩
/-- every sequence has a number -/
theorem digs_valD {n : Nat} : ∀ q : List Int, (∀ r ∈ q, 0 ≤ r ∧ r < (n : Int)) → digs n q.length (valD n q) = q ∧ valD n q < n ^ q.length
  | [], _ => ⟨rfl, by simp [valD]⟩
  | x :: q, h => by
    obtain ⟨ih1, ih2⟩ := digs_valD q (fun r hr => h r (List.mem_cons_of_mem _ hr))
    obtain ⟨h0, h1⟩ := h x (List.mem_cons_self ..)
    have hx : x.toNat < n := by omega
    have hn : 0 < n := by omega
    refine ⟨?_, ?_⟩
    · rw [List.length_cons, valD, digs_first hn q.length x.toNat (valD n q) hx ih2, ih1, Int.toNat_of_nonneg h0]
    · rw [List.length_cons, valD, Nat.pow_succ]
      have e1 : x.toNat * n ^ q.length + n ^ q.length ≤ n * n ^ q.length := by
        rw [← Nat.succ_mul]
        exact Nat.mul_le_mul_right _ hx
      rw [Nat.mul_comm (n ^ q.length) n]
      omega
def mixL (ns : List (List (List Int))) (ws : List Int) : List ((Nat → List Int → Nat) × Int) := (ns.zip ws).map (fun x => (algT x.1, x.2))
theorem mixS_V (p : Pr) (S : Nat) (q : List Int) : ∀ (ns : List (List (List Int))) (ws : List Int), ws.length = ns.length → mixS p S q (mixL ns ws) = mixV p ns ws S q
  | [], [], _ => rfl
  | nx :: ns, w :: ws, h => by
    have ih := mixS_V p S q ns ws (by simpa using h)
    unfold mixV
    rw [List.length_cons, sumTo_shiftR]
    show w * rest p (algT nx) S [] q + mixS p S q (mixL ns ws) = _
    rw [ih]
    rfl
theorem xSum_W : ∀ (ns : List (List (List Int))) (ws : List Int), ws.length = ns.length → xSum (mixL ns ws) = sumW ws
  | [], [], _ => rfl
  | nx :: ns, w :: ws, h => by
    have ih := xSum_W ns ws (by simpa using h)
    unfold sumW
    rw [List.length_cons, sumTo_shiftR]
    show w + xSum (mixL ns ws) = _
    rw [ih]
    rfl
theorem mixL_ok {p : Pr} {ns : List (List (List Int))} {ws : List Int} (hm : MixP p ns ws) : ∀ a ∈ mixL ns ws, TauB p a.1 ∧ 0 ≤ a.2 := by
  intro a ha
  unfold mixL at ha
  obtain ⟨x, hx, rfl⟩ := List.mem_map.1 ha
  obtain ⟨h1, h2⟩ := List.of_mem_zip (a := x.1) (b := x.2) hx
  obtain ⟨j, hj, hj2⟩ := List.getElem_of_mem h1
  have h3 := hm.2.2.2 j hj
  rw [List.getD_eq_getElem?_getD, List.getElem?_eq_getElem hj, Option.getD_some, hj2] at h3
  have h4 := wgB_mem hm.2.2.1 _ h2
  exact ⟨h3.tau, by show 0 ≤ x.2; omega⟩
/-- the law of numbers -/
theorem yao_law {p : Pr} {qs : List (List Int)} {cw : List Int} {ns : List (List (List Int))} {ws : List Int} {S : Nat} {mo : Int} (f : BrF p qs cw S) (hm : MixP p ns ws) (h0 : 0 ≤ mo) (h1 : mo ≤ 257040)
    (hmo : ∀ t, t < p.sv.length ^ (qs.getD 0 []).length → mixV p ns ws S (digs p.sv.length (qs.getD 0 []).length t) ≤ mo) :
    (mkFr mo (sumW ws)).ok = true ∧ 0 ≤ (mkFr mo (sumW ws)).num ∧ (mkFr mo (sumW ws)).num ≤ 257040 ∧ 1 ≤ (mkFr mo (sumW ws)).den ∧ (mkFr mo (sumW ws)).den ≤ 36 ∧ (bexV p (S : Int) qs cw).num * (mkFr mo (sumW ws)).den ≤ (mkFr mo (sumW ws)).num * (bexV p (S : Int) qs cw).den := by
  have hlw := mix_len hm
  have hW := mix_sum hm ws.length (Nat.le_refl _)
  have hW1 : 1 ≤ sumW ws ∧ sumW ws ≤ 36 := by
    show 1 ≤ sumTo (fun a => ws.getD a 0) ws.length ∧ sumTo (fun a => ws.getD a 0) ws.length ≤ 36
    omega
  obtain ⟨m1, m2, m3, m4, m5, m6⟩ := mkFr_fine (a := mo) (b := sumW ws) (by omega) (by omega)
  have g := f.gd
  have ha := g.ah (n := (qs.getD 0 []).length) g.l6 f.s1 []
  have hc : 1 ≤ sumW cw ∧ sumW cw ≤ 108 := by
    rw [← wS_sumR qs cw g.len]
    refine ⟨?_, g.wle []⟩
    have := wS_pos g.cb (zip_at g.len g.q0.1) (seen := []) (by simp [List.isPrefixOf])
    omega
  obtain ⟨b1, b2, b3, b4, b5, b6⟩ := mkFr_fine (a := ahead p (qs.zip cw) (qs.getD 0 []).length S []) (b := sumW cw) (by omega) (by omega)
  have hb : bexV p (S : Int) qs cw = mkFr (ahead p (qs.zip cw) (qs.getD 0 []).length S []) (sumW cw) := by unfold bexV; rw [f.dr, if_pos rfl, Int.toNat_natCast]
  have hy := yao_bound f.pr.prB g.cb f.s1 (mixL_ok hm) (most := mo) (fun x hx => by
    obtain ⟨q1, q2, _⟩ := g.cb x hx
    rw [mixS_V p S x.1 ns ws hlw.2.2]
    obtain ⟨e1, e2⟩ := digs_valD x.1 q2
    rw [q1] at e1 e2
    have := hmo _ e2
    rwa [e1] at this)
  rw [xSum_W ns ws hlw.2.2, wS_sumR qs cw g.len] at hy
  rw [hb]
  refine ⟨m1, m3, by omega, m5, by omega, ?_⟩
  exact cross_le (A1 := ahead p (qs.zip cw) (qs.getD 0 []).length S []) (W1 := sumW cw) (A2 := mo) (W2 := sumW ws) (by rw [Int.mul_comm, Int.mul_comm mo]; exact hy) b2 m2 (by omega) (by omega) (by omega) (by omega)
end Go.Proofs.Ytndhijckbponkaa
