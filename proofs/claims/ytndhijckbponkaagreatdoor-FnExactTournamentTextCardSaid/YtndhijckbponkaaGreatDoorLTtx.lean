import Derived.Test.YtndhijckbponkaaGreatDoorRows
import Derived.Test.YtndhijckbponkaaGreatDoorCards
import Derived.Test.YtndhijckbponkaaGreatDoorTie
import Derived.Deep.DeepHandedRow
import Derived.SizedLaws
import Derived.SevenTiedAt
import Derived.Stop.LaidErr
import Derived.Deep.DeepLaidRun
import Derived.Test.YtndhijckbponkaaGreatDoorSi
import Derived.Test.YtndhijckbponkaaGreatDoorIh
/-
  For every input the law FnExactTournamentText returns true and leaves its arguments as they read before; what it lists is tied to the program's text.
  Conditions: none beyond the row's own cells. (The walk is in the texts that this one imports.)
-/










namespace Go.Proofs.YtndhijckbponkaaGreatDoor.fnExactTournamentText
open Go.ChangeShapes Go.WideShapes Go.ChangeAt Go.RowKit
open Go.ChangeMaps (open_string shut_string)

theorem own : ownKnob Tryz.prog.godebug = none := by kernel_rfl
theorem laidOut : laidOutB Tryz.prog = true := by kernel_rfl
theorem gT : Tryz.prog.globalNamed "internal/strconv.uint64pow10" = some 5 := by kernel_rfl
def lit1 : DataW Unit → List Value
  | .lit (.int k n) => [Value.int k n]
  | _ => [Value.bool false]
def lit2 : DataW Unit → List Value
  | .agg ps => ps.flatMap lit1
  | d => lit1 d
def tabCells : DataW Unit → Array Value
  | .agg ps => (ps.flatMap lit2).toArray
  | _ => #[]
def laid1 (d : DataW Unit) : Obj → Obj
  | .cells _ t frozen => .cells (tabCells d) t frozen
  | x => x
/-- the world as it starts, what is listed holding what its initialisers lay: the witness -/
noncomputable def laidWorld (os : Os) : World :=
  { World.holding Tryz.prog os ⟨#[], #[], []⟩ with heap := ((((((World.holding Tryz.prog os ⟨#[], #[], []⟩).heap.modify 6 (laid1 Rows.laid_math_bits_deBruijn32tab)).modify 7 (laid1 Rows.laid_math_bits_deBruijn64tab)).modify 5 (laid1 Rows.laid_internal_strconv_uint64pow10)).modify 4 (laid1 Rows.laid_unicode_utf8_acceptRanges)).modify 3 (laid1 Rows.laid_unicode_utf8_first)) }
theorem laid_met (os : Os) (args : Array Value) : laidMet Tryz.prog Rows.fnExactTournamentTextRow.laid ((laidWorld os).forCall (fun _ _ => 0) ⟨#[], args, []⟩).memory :=
  laidMet_of_run3 8 (by kernel_rfl) (by kernel_rfl) (by kernel_rfl)

theorem witness_row (os : Os) {H : Type} (enc : TypeId × Value → H) :
    (OpenSpec.ofChange Rows.fnExactTournamentTextSpec).preRow enc Tryz.prog Tryz.f3 Rows.fnExactTournamentTextRow.domain false Rows.fnExactTournamentTextRow.laid ((laidWorld os).forCall (fun _ _ => 0) ⟨#[], #[.agg #[.int .i64 0, .slice none 0 0, .slice none 0 0]], []⟩).memory #[.agg #[.int .i64 0, .slice none 0 0, .slice none 0 0]] := by
  have hw : (DataW.whole enc Tryz.prog ((laidWorld os).forCall (fun _ _ => 0) ⟨#[], #[.agg #[.int .i64 0, .slice none 0 0, .slice none 0 0]], []⟩).memory Tryz.f3.params.toList (OpenSpec.ofChange Rows.fnExactTournamentTextSpec).vars false (#[.agg #[.int .i64 0, .slice none 0 0, .slice none 0 0]] : Array Value).toList 8).map (fun x => (x.1, x.2.1)) =
      some ([.agg [.lit (.int .i64 0), .nil, .nil]], []) := by kernel_rfl
  obtain ⟨⟨x1, x2, x3⟩, hx, hx1⟩ := Option.map_eq_some_iff.1 hw
  simp only [Prod.mk.injEq] at hx1
  obtain ⟨rfl, rfl⟩ := hx1
  exact OpenSpec.preRow_of_cond 8 hx (by kernel_rfl) (fun k hk => by cases hk) (by kernel_rfl) (laid_met os _)

set_option maxRecDepth 100000 in
theorem lifted (os : Os) (started : os.Started) (H : Type) (enc : TypeId × Value → H) (F0 : Stop.Interp) :
    ReturnsInHanded {} Tryz.checked os 3 .any ((OpenSpec.ofChange Rows.fnExactTournamentTextSpec).preRow enc Tryz.prog Tryz.f3 Rows.fnExactTournamentTextRow.domain false Rows.fnExactTournamentTextRow.laid) (((OpenSpec.ofChange Rows.fnExactTournamentTextSpec).at F0).post enc Tryz.prog Tryz.f3 false true false false) := by
  refine returnsInHanded_of_row (C := Tryz.checked) (s := OpenSpec.ofChange Rows.fnExactTournamentTextSpec) own started (by kernel_rfl) Tryz.func3
    (witness_row_at (enc := enc) (C := Tryz.checked) false (laidWorld os) #[.agg #[.int .i64 0, .slice none 0 0, .slice none 0 0]] rfl (by kernel_rfl) (by kernel_rfl) (by kernel_rfl) (witness_row os enc)) ?_
  intro W base args ds gs before hval0 hW _ _ _ hL hsh _
  have hval : ∀ (j : Nat) t v, Tryz.f3.params[j]? = some t → args[j]? = some v → Value.okWide Tryz.prog W .any base t v := hval0
  have hW' := hW
  obtain ⟨p, q, hA0, hV0, rfl, _, _⟩ := hW
  have hA : DataW.TrodAll enc Tryz.prog W 0 (fun _ => true) true Tryz.f3.params.toList args.toList ds p := hA0
  obtain ⟨m, hm⟩ : ∃ m, W.cell? ⟨0, 0, none⟩ = some (.int .i64 m) := cell_of_shapedOpen_int (zero := #[.int .i64 0]) (t := 3) hsh (of_decide_eq_true (by kernel_rfl)) (by kernel_rfl) rfl (by kernel_rfl) (by kernel_rfl) Tryz.underlying3
  have hL1 : laidMet Tryz.prog [("math/bits.deBruijn32tab", Rows.laid_math_bits_deBruijn32tab), ("math/bits.deBruijn64tab", Rows.laid_math_bits_deBruijn64tab), ("internal/strconv.uint64pow10", Lib.tabData .u64 Lib.pow10Tab), ("unicode/utf8.acceptRanges", Rows.laid_unicode_utf8_acceptRanges), ("unicode/utf8.first", Rows.laid_unicode_utf8_first)] W := hL
  have hLay : Lay W := ⟨⟨m, hm⟩, Lib.tabIs_of_head gT (t := 196) (by kernel_rfl) Tryz.underlying196 Tryz.underlying78 (by kernel_rfl) (by kernel_rfl) hL1.tail.tail⟩
  rw [Tryz.params3] at hA hval
  obtain ⟨v0, vs0, d0, ds0, p0, q0, hargs, rfl, rfl, h0, r0⟩ := trodAll_cons hA
  obtain ⟨rfl, rfl, rfl⟩ := trodAll_nil r0
  obtain rfl : args = #[v0] := by cases args; simp_all
  obtain ⟨rfl, rfl⟩ := trodVars_none hV0
  have k0 := h0
  have lt0 : ∀ x ∈ p0, x.block < W.heap.size := by obtain ⟨m, hm⟩ := k0; exact DataW.trod_lt m _ _ _ hm
  obtain ⟨cs0, rfl, _⟩ := okWide_struct Tryz.underlying25 (hval 0 25 v0 rfl rfl)
  obtain ⟨u0, f0⟩ := h0
  obtain ⟨_, _, _, _, _, _, _, _, e0, x0, y0, z0⟩ := open_tour (fun _ => rfl) (cs := (Value.agg cs0).cells.toList) f0
  obtain ⟨cs0⟩ := cs0
  simp only [Value.cells] at e0
  subst e0
  clear hA0 hval0
  refine (law_TournamentText _ _ _ _ _ _ _ _ W x0 y0 z0 hLay).mono fun e W' h => ?_
  obtain ⟨he, bel0⟩ := h
  have bel := bel0.below
  subst he
  exact ⟨_, rfl, _, _, _, [], _, [], hW', trodAll_mk1 (shut_bool Tryz.underlying4 _), (trodAll_cons_mk (Below.trod laidOut (by kernel_rfl) (of_decide_eq_true (by kernel_rfl)) k0 bel lt0) trodAll_mk0), rfl, bel.frame _, fun h => by cases h⟩

theorem over : Rows.FnExactTournamentTextSaid :=
  OpenClaim.holds_of_cond 3 Tryz.f3 rfl rfl rfl rfl rfl rfl rfl ⟨rfl, rfl, rfl, rfl, rfl⟩ rfl rfl rfl rfl rfl (by kernel_rfl) Tryz.func3 (by kernel_rfl)
    (of_decide_eq_true (by kernel_rfl)) (by unfold Func.isWrapper; first | (rw [if_pos (by decide +kernel)]; kernel_rfl) | (rw [if_neg (by decide +kernel)]; exact ⟨rfl, rfl⟩))
    (fun os started H enc _ F0 => by rw [OpenClaim.pre_eq_preRow]; exact lifted os started H enc F0)

theorem proved : Rows.FnExactTournamentTextCardSaid :=
  Claim7.holds_tied_plain_at .later [] [.data, .data, .data, .data, .pinned] true (true, "b2972b30c1b9f5eb61ae71cc2115016b6ebd37cde3571074b8ccfb64591072bf") true
    over (fun _ h => by cases h) (by kernel_rfl) (fun _ h => by cases h) fnExactTournamentText_row_tie rfl ⟨rfl, rfl⟩ (by kernel_rfl) rfl
    (fun f fn hf hfn => by
      obtain rfl : f = 3 := Option.some.inj ((show Tryz.prog.funcNamed "loop.example/g01087/laws.FnExactTournamentText" = some 3 by kernel_rfl).symm.trans hf) |>.symm
      obtain rfl : fn = Tryz.f3 := (Option.some.inj (Tryz.func3.symm.trans hfn)).symm
      exact ⟨by kernel_rfl, fun j t ht => by
        rw [Tryz.params3] at ht
        have ht' : t ∈ ([25] : List TypeId) := by
          have := Array.mem_of_getElem? ht
          simpa using this
        simp only [List.mem_cons, List.not_mem_nil, or_false] at ht'
        rcases ht' with rfl
        exact (show Tryz.prog.wantsStandIn 25 = false by kernel_rfl)⟩)
    (by kernel_rfl)
#print axioms proved
end Go.Proofs.YtndhijckbponkaaGreatDoor.fnExactTournamentText
