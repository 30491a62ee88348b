import Derived.Test.YtodnkkmjjlfoiaaGreatDp
import Derived.Test.YtodnkkmjjlfoiaaGreatUc
import Derived.Test.YtodnkkmjjlfoiaaGreatPk6
/- a request that is taken back, plain -/
namespace Go.Proofs.YtodnkkmjjlfoiaaGreat
open Go.RowKit

theorem req_back {u : To} (hu : tourB u = true) (a : Int) (h : okStep u 2 a 0 = true) :
    tourB (stepT u 2 a 0) = true ∧ okStep (stepT u 2 a 0) 4 0 0 = true ∧ stepT (stepT u 2 a 0) 4 0 0 = u := by
  have hs : stepT u 2 a 0 = againT u (u.reqs ++ [a]) := by unfold stepT; rw [if_neg (by omega), if_neg (by omega), if_pos rfl]
  have hl : (againT u (u.reqs ++ [a])).reqs.length = u.reqs.length + 1 := by unfold againT; simp
  have hpl : (againT u (u.reqs ++ [a])).ps.length = u.ps.length := againP_len _ _
  refine ⟨tour_step hu 2 a 0 h, ?_, ?_⟩
  · rw [hs]
    have hp : okPlain (againT u (u.reqs ++ [a])) 4 0 0 = (decide (0 < (againT u (u.reqs ++ [a])).reqs.length) && decide (latT (againT u (u.reqs ++ [a])).ps (againT u (u.reqs ++ [a])).ps.length < ((againT u (u.reqs ++ [a])).reqs.length : Int))) := by simp [okPlain]
    unfold okStep
    rw [if_neg (by omega), if_neg (by omega), hp, hl, hpl]
    simp only [Bool.and_eq_true, decide_eq_true_eq]
    refine ⟨by omega, (latT_lt _ _ (by omega) _).2 (fun i hi => ?_)⟩
    rw [again_frm u _ hi]
    have := (tour_at hu hi).1.2
    omega
  · have hs4 : ∀ t : To, stepT t 4 0 0 = againT t (t.reqs.take (t.reqs.length - 1)) := fun t => by unfold stepT; rw [if_neg (by omega), if_neg (by omega), if_neg (by omega), if_neg (by omega), if_pos rfl]
    rw [hs, hs4, hl]
    have e : (againT u (u.reqs ++ [a])).reqs.take (u.reqs.length + 1 - 1) = u.reqs := by unfold againT; simp
    rw [e, againT_again, againT_self hu]
end Go.Proofs.YtodnkkmjjlfoiaaGreat

/- a letter of a code; a new Tournament -/
namespace Go.Proofs.YtodnkkmjjlfoiaaGreat
open Go.RowKit

def atC (l : List Int) (i : Nat) : Int := if i < l.length then l.getD i 0 else ((i * 7 + l.length) % 256 : Nat)
/-- a code that is read, letters told -/
def CodeL (w : World) (v : Value) (l : List Int) : Prop := RF No w v 1 l.length (l.map (Value.int .u8)) ∧ ∀ x ∈ l, 0 ≤ x ∧ x ≤ 255
theorem CodeL.keep {w w' : World} {v : Value} {l : List Int} (h : CodeL w v l) (hc : Chg No w w') : CodeL w' v l := ⟨h.1.keep hc, h.2⟩
theorem Code.list {w : World} {v : Value} {n : Nat} (h : Code w v n) : ∃ l, l.length = n ∧ CodeL w v l := by
  obtain ⟨l, h1, h2, h3⟩ := h
  subst h1
  exact ⟨l, rfl, h2, h3⟩
theorem atC_in {w : World} {v : Value} {l : List Int} (h : CodeL w v l) (i : Nat) : 0 ≤ atC l i ∧ atC l i ≤ 255 := by
  unfold atC
  split
  · rename_i hi
    rw [List.getD_eq_getElem?_getD, List.getElem?_eq_getElem hi]
    exact h.2 _ (List.getElem_mem hi)
  · omega
set_option maxRecDepth 100000 in
set_option maxHeartbeats 1000000 in
theorem vAt_any (v : Value) (l : List Int) (k : Nat) (w : World) (h : CodeL w v l) (hn : l.length ≤ 70000) (hk : k ≤ 200) :
    Calls Tryz.prog 21 #[v, .int .i64 (k : Int)] w fun e w' => e = .returned (.int .i64 (atC l k)) ∧ w = w' := by
  obtain ⟨h1, hx⟩ := h
  obtain ⟨a, c, rfl, _, hc, _, _, hcell⟩ := h1
  have hk0 : (0 : Int) ≤ (k : Int) := Int.natCast_nonneg _
  by_cases hlt : k < l.length
  · have he : atC l k = l.getD k 0 := by unfold atC; rw [if_pos hlt]
    obtain ⟨b, off, rfl, _, _, hce⟩ := hcell (by omega)
    have hb := hx (l.getD k 0) (by rw [List.getD_eq_getElem?_getD, List.getElem?_eq_getElem hlt]; exact List.getElem_mem hlt)
    have hg : w.cell? ⟨b, off + k, none⟩ = some (.int .u8 (l.getD k 0)) := by
      rw [hce k (by rw [List.length_map]; exact hlt)]
      simp [List.getD_eq_getElem?_getD, hlt]
    have HE := Lib.hid he
    obtain ⟨x, hxx⟩ : ∃ x, l.getD k 0 = x := ⟨_, rfl⟩
    rw [hxx] at hg hb he HE
    clear hcell hce hx he
    go_enter Tryz.func21, Tryz.ntmps21
    go_wp2_with fail
    go_ret
    rw [HE.out]
    exact ⟨rfl, rfl⟩
  · have he : atC l k = ((k * 7 + l.length) % 256 : Nat) := by unfold atC; rw [if_neg hlt]
    have HE := Lib.hid he
    clear hcell hx he
    go_enter Tryz.func21, Tryz.ntmps21
    go_wp2_with fail
    go_ret
    rw [HE.out]
    exact ⟨congrArg (fun x => Ending.returned (.int .i64 x)) (by omega), rfl⟩
end Go.Proofs.YtodnkkmjjlfoiaaGreat
