import Derived.Test.YtdgcohoneijleaaGreatPkX3
import Derived.Test.YtdgcohoneijleaaGreatK
import Derived.Test.YtdgcohoneijleaaGreatAr
import Derived.Test.YtdgcohoneijleaaGreatPkX1
import Derived.Test.YtdgcohoneijleaaGreatUc
/- slices.Grow of nil, slices.Concat -/
namespace Go.Proofs.YtdgcohoneijleaaGreat
open Go.RowKit

set_option maxRecDepth 100000 in
set_option maxHeartbeats 1000000 in
theorem GrowNil_any (n : Nat) (w : World) (hn : n ≤ 1048576) :
    Calls Tryz.prog 46 #[.slice none 0 0, .int .i64 (n : Int)] w (Ret fun r w' => OI w.heap.size w' r [] ∧ Chg No w w') := by
  have hn0 : (0 : Int) ≤ (n : Int) := Int.natCast_nonneg _
  have hw1 : IntKind.i64.wrap (n : Int) = (n : Int) := IntWalk.i64_in _ (by omega)
  by_cases hz : n = 0
  · subst hz
    go_enter Tryz.func46, Tryz.ntmps46
    go_wp2_with fail
    go_ret
    exact ⟨_, rfl, OI.nil _ _, Chg.refl _ _⟩
  · obtain ⟨i, hi, hz0, hz1, hz2⟩ := info_parts Tryz.infoInt
    have hpos : (0 : Int) < (n : Int) := by omega
    have hr := fun ty => Lib.run_append_nil_zeros (P := Tryz.prog) w 25 3 ty 3 i (.int .i64 0) .i64 .i64 Tryz.underlying25 Tryz.underlying3 hi hz0 n (by omega) (by rw [hz1]; omega) (by omega) (by rw [hz2]; omega)
    obtain ⟨C, hC⟩ : ∃ C, grownCap w n 0 3 = C := ⟨_, rfl⟩
    have hC1 := grownCap_ge w n 0 3
    have hC2 := grownCap_le_maxLen w n 0 3 (by unfold maxLen; omega)
    rw [hC] at hr hC1 hC2
    rw [zeros_int, zeros_int, Array.replicate_append_replicate, Nat.add_sub_of_le hC1] at hr
    have hO : OI w.heap.size (w.drew.alloc (.cells (Array.replicate C (Value.int .i64 0)) 3)) (.slice (some ⟨w.heap.size, 0, none⟩) 0 C) [] :=
      ⟨by simp, World.ownsRow_made w.drew (Array.replicate C (Value.int .i64 0)) C (Nat.le_refl _) hC2 (by simp)⟩
    have hK := (Chg.refl No w).drew.alloc (.cells (Array.replicate C (Value.int .i64 0)) 3)
    generalize w.drew.alloc (.cells (Array.replicate C (Value.int .i64 0)) 3) = W0 at hr hO hK
    have HO := Lib.hid hO
    have HK := Lib.hid hK
    unfold maxLen at hC2
    clear hO hK hz hC hz0 hz1 hz2
    go_enter Tryz.func46, Tryz.ntmps46
    go_wp2_with (at_builtin; refine Lib.wpList_append_run _ rfl (.tmp 20) (.tmp 21) _ _ rfl _ _ rfl rfl _ _ (hr _) ?_)
    go_wp2_with fail
    go_ret
    exact ⟨_, rfl, HO.out, HK.out⟩

theorem flat_succ (ll : List (List Int)) (k : Nat) (h : k < ll.length) : (ll.take (k + 1)).flatten = (ll.take k).flatten ++ ll.getD k [] := by
  rw [List.take_succ_eq_append_getElem h, List.flatten_append]
  simp [List.getD_eq_getElem?_getD, List.getElem?_eq_getElem h]
theorem tot_flat (ll : List (List Int)) : ll.flatten.length = tot ll := by
  induction ll with
  | nil => rfl
  | cons l ll ih => simp [tot, ih]
set_option maxRecDepth 100000 in
set_option maxHeartbeats 2000000 in
theorem Concat_any (v : Value) (ll : List (List Int)) (w : World) (h : RII No w v ll) (ht : tot ll ≤ 1048576) (hl : ll.length ≤ 1048576) :
    Calls Tryz.prog 23 #[v] w (Ret fun r w' => OI w.heap.size w' r ll.flatten ∧ Chg No w w') := by
  obtain ⟨_, vs, hvl, ⟨a, cap, rfl, hcap, hmax, hcl, _, hc⟩, hin⟩ := h
  have HI := Lib.hid hin
  have HV := Lib.hid hvl
  have HCL := Lib.hid hcl
  have HC := Lib.hid hc
  have HT := Lib.hid ht
  have hn0 : (0 : Int) ≤ (ll.length : Int) := Int.natCast_nonneg _
  clear hin hvl hcl hc ht
  go_enter Tryz.func23, Tryz.ntmps23
  go_wp2_with fail
  go_loopw [3, 11] (fun s z wr => ∃ k : Nat, k ≤ ll.length ∧ z = .int .i64 (k : Int) ∧ s = .int .i64 (tot (ll.take k) : Int) ∧ wr = w) (fun _ z _ => ll.length - (intOf z).toNat)
  case atStart => exact ⟨0, Nat.zero_le _, rfl, by simp [tot], rfl⟩
  case round =>
    obtain ⟨k, hk, rfl, rfl, rfl⟩ := hrel
    obtain ⟨m, hm⟩ : ∃ m, tot (ll.take k) = m := ⟨_, rfl⟩
    rw [hm]
    have hk0 : (0 : Int) ≤ (k : Int) := Int.natCast_nonneg _
    have hm0 : (0 : Int) ≤ (m : Int) := Int.natCast_nonneg _
    by_cases hlt : k < ll.length
    · obtain ⟨b, off, rfl, _, hb, hcell⟩ := HC.out (by omega)
      have hck := hcell k (by rw [HCL.out]; omega)
      have hin := HI.out k hlt
      have hs := tot_succ ll k hlt
      have hle := tot_take ll (k + 1)
      generalize vs.getD k undef = x at hck hin
      obtain ⟨xa, xn, xc, rfl⟩ := hin.shape
      have hxn := hin.n.1
      rw [hm, ← hxn] at hs
      have hsum : m + xn ≤ 1048576 := by have := HT.out; omega
      have HS := Lib.hid hs
      have hw1 : IntKind.i64.wrap ((k : Int) + 1) = (k : Int) + 1 := IntWalk.i64_in _ (by omega)
      have hw2 : IntKind.i64.wrap ((m : Int) + (xn : Int)) = (m : Int) + (xn : Int) := IntWalk.i64_in _ (by omega)
      have hk1 : (k : Int) < (ll.length : Int) := by omega
      have hnn : ¬ (m : Int) + (xn : Int) < 0 := by omega
      clear hcell hm hs hle hin hxn
      go_wp2_with fail
      go_round
      case measure => simp [intOf]; omega
      case rel => exact ⟨k + 1, by omega, by go_num, by rw [HS.out]; exact congrArg (Value.int .i64) (by omega), by first | rfl | trivial⟩
    · have hkl : k = ll.length := by omega
      subst hkl
      rw [List.take_length] at hm
      have hm1 : m ≤ 1048576 := by have := HT.out; omega
      clear hm
      go_wp2_with fail
      refine (GrowNil_any m wr hm1).mono ?_
      rintro e w1 ⟨v1, rfl, o1, k1⟩
      go_wp2_with fail
      go_loopw [6, 27] (fun o z wq => ∃ k : Nat, k ≤ ll.length ∧ z = .int .i64 (k : Int) ∧ OI wr.heap.size wq o (ll.take k).flatten ∧ Chg No wr wq) (fun _ z _ => ll.length - (intOf z).toNat)
      case atStart => exact ⟨0, Nat.zero_le _, rfl, by simpa using o1, k1⟩
      case round =>
        clear o1 k1
        obtain ⟨k, hk, rfl, ho, kk⟩ := hrel
        have hk0 : (0 : Int) ≤ (k : Int) := Int.natCast_nonneg _
        by_cases hlt : k < ll.length
        · obtain ⟨b, off, rfl, _, hb, hcell⟩ := HC.out (by omega)
          have hck := (kk.cellD b _ hb (fun e => e)).trans (hcell k (by rw [HCL.out]; omega))
          have hin := (HI.out k hlt).keep kk
          have hs := flat_succ ll k hlt
          have hle := tot_take ll (k + 1)
          have htf := tot_flat (ll.take (k + 1))
          rw [hs, List.length_append] at htf
          generalize vs.getD k undef = x at hck hin
          obtain ⟨xa, xn, xc, rfl⟩ := hin.shape
          obtain ⟨oa, on, oc, rfl⟩ := ho.shape
          have hsum : (ll.take k).flatten.length + (ll.getD k []).length ≤ 17592186044416 := by have := HT.out; omega
          obtain ⟨lk, hlk⟩ : ∃ lk, ll.getD k [] = lk := ⟨_, rfl⟩
          rw [hlk] at hs hin hsum
          have HS := Lib.hid hs
          have HIN := Lib.hid hin
          have hw1 : IntKind.i64.wrap ((k : Int) + 1) = (k : Int) + 1 := IntWalk.i64_in _ (by omega)
          have hk1 : (k : Int) < (ll.length : Int) := by omega
          have hsz := kk.size
          obtain ⟨L, hL⟩ : ∃ L, (ll.take k).flatten = L := ⟨_, rfl⟩
          rw [hL] at ho hsum HS
          have HO := Lib.hid ho
          clear hcell hs hle hin htf hL ho hlk
          go_wp2_with (at_builtin; refine wapp rfl (.tmp 31) (.tmp 32) rfl HO.out HIN.out rfl rfl hsum hsz ?_)
          intro v7 w7 h7 k7 f7
          have hk7 := kk.step k7 (fun q e hl => by have := (HO.out.lt q e).1; omega)
          have HEND := Lib.hid (And.intro h7 hk7)
          obtain ⟨na, nn, nc, rfl⟩ := h7.shape
          clear h7 hk7 k7 f7 kk
          go_wp2_with fail
          go_round
          case measure => simp [intOf]; omega
          case rel => exact ⟨k + 1, by omega, by go_num, by rw [HS.out]; exact HEND.out.1, HEND.out.2⟩
        · have hkl : k = ll.length := by omega
          subst hkl
          rw [List.take_length] at ho
          obtain ⟨oa, on, oc, rfl⟩ := ho.shape
          go_wp2_with fail
          go_ret
          exact ⟨_, rfl, ho, kk⟩
end Go.Proofs.YtdgcohoneijleaaGreat

/- two sequences joined: the program's walk -/
namespace Go.Proofs.YtdgcohoneijleaaGreat
open Go.RowKit

def joinB (n : Int) (a b : List Int) : Bool := (inB n 1 8 && decide (a.length ≤ 60) && belowB n a) && (inB n 1 8 && decide (b.length ≤ 60) && belowB n b) && decide (a.length + b.length ≤ 60)
theorem RII.two {w : World} {x y : Value} {a b : List Int} {T : TypeId} (h : RI No w x a) (h' : RI No w y b) : RII No (w.alloc (.cells #[x, y] T)) (.slice (some ⟨w.heap.size, 0, none⟩) 2 2) [a, b] := by
  refine ⟨by simp, [x, y], rfl, ⟨_, _, rfl, by simp, by omega, by simp, by simp, fun _ => ⟨w.heap.size, 0, rfl, fun e => e, by simp, fun i hi => ?_⟩⟩, fun i hi => ?_⟩
  · have h2 : i = 0 ∨ i = 1 := by have : i < 2 := hi; omega
    rcases h2 with rfl | rfl <;> (rw [World.cell?_alloc_new]; rfl)
  · have h2 : i = 0 ∨ i = 1 := by have : i < 2 := hi; omega
    rcases h2 with rfl | rfl
    · exact h.keep ((Chg.refl No w).alloc _)
    · exact h'.keep ((Chg.refl No w).alloc _)
set_option maxRecDepth 100000 in
set_option maxHeartbeats 1000000 in
theorem Join_yes (A B : Nat → Prop) (av bv : Value) (n : Int) (a b : List Int) (w : World) (ha : RI A w av a) (hb : RI B w bv b) (hj : joinB n a b = true) :
    Calls Tryz.prog 10 #[.int .i64 n, av, bv] w (Ret2 fun v0 v1 w' => OI w.heap.size w' v0 (a ++ b) ∧ v1 = .bool true ∧ Chg No w w') := by
  unfold joinB at hj
  simp only [Bool.and_eq_true (_ && _ && _ : Bool), decide_eq_true_eq] at hj
  have HA := Lib.hid (fun W (kc : Chg No w W) => IsRequests_any A av a n W (ha.keep kc))
  have HB := Lib.hid (fun W (kc : Chg No w W) => IsRequests_any B bv b n W (hb.keep kc))
  rw [hj.1.1] at HA
  rw [hj.1.2] at HB
  have hab := hj.2
  have hla : (a.length : Int) ≤ 60 := by omega
  have hwl : IntKind.i64.wrap ((a.length : Int) + (b.length : Int)) = (a.length : Int) + (b.length : Int) := IntWalk.i64_in _ (by omega)
  have hle : (a.length : Int) + (b.length : Int) ≤ 60 := by omega
  obtain ⟨aa, ac, rfl, _⟩ := id ha
  obtain ⟨ba, bc, rfl, _⟩ := id hb
  have HR := Lib.hid (fun W (kc : Chg No w W) => And.intro ((ha.weak (B := No) (fun _ e _ => e.elim)).keep kc) ((hb.weak (B := No) (fun _ e _ => e.elim)).keep kc))
  clear hj ha hb
  go_enter Tryz.func10, Tryz.ntmps10
  go_wp2_with fail
  refine (HA.out w (Chg.refl _ _)).mono ?_
  rintro e w1 ⟨_, rfl, rfl, k1⟩
  go_wp2_with fail
  refine (HB.out w1 k1).mono ?_
  rintro e w2 ⟨_, rfl, rfl, k2⟩
  have kk := k1.keep k2
  obtain ⟨r1, r2⟩ := HR.out w2 kk
  have h2 := RII.two (T := 25) r1 r2
  have kk3 := kk.alloc (.cells #[.slice aa a.length ac, .slice ba b.length bc] 25)
  have hz := kk3.size
  have HCC := Lib.hid (Concat_any _ [a, b] _ h2 (by simp [tot]; omega) (by simp))
  have hft : [a, b].flatten = a ++ b := by simp
  rw [hft] at HCC
  clear r1 r2 h2 hft k1 k2
  go_wp2_with fail
  refine HCC.out.mono ?_
  rintro e w3 ⟨v, rfl, ho, k3⟩
  have kk4 := kk3.keep k3
  have HO := Lib.hid (ho.weak hz)
  clear ho
  go_wp2_with fail
  go_ret2
  exact ⟨_, _, rfl, HO.out, rfl, kk4⟩
end Go.Proofs.YtdgcohoneijleaaGreat

/- numbers of items, policies, sizes, items drawn -/
namespace Go.Proofs.YtdgcohoneijleaaGreat
open Go.RowKit

theorem RI.lit (A : Nat → Prop) (W : World) (l : List Int) (cs : Array Value) (T : TypeId) (g n m : Nat) (hg : W.heap.size = g) (hcs : cs.toList = l.map (Value.int .i64)) (hm : m = l.length) (hn : n ≤ m) (hA : ¬ A g) (hl : l.length ≤ 1000) :
    RI A (W.alloc (.cells cs T)) (.slice (some ⟨g, 0, none⟩) n m) (l.take n) := by
  subst hg hm
  have hlt : (l.take n).length = n := by rw [List.length_take]; omega
  have hsz : cs.size = l.length := by rw [← Array.length_toList, hcs, List.length_map]
  refine ⟨some ⟨W.heap.size, 0, none⟩, l.length, by rw [hlt], by omega, by omega, by omega, (fun h => by cases h), fun _ => ⟨W.heap.size, 0, rfl, hA, by rw [World.size_alloc]; omega, fun i hi => ?_⟩⟩
  rw [hlt] at hi
  rw [Nat.zero_add, World.cell?_alloc_new]
  have h1 : cs[i]? = some (.int .i64 (l.getD i 0)) := by
    rw [← Array.getElem?_toList, hcs, List.getElem?_map, List.getD_eq_getElem?_getD, List.getElem?_eq_getElem (by omega : i < l.length)]
    rfl
  rw [h1]
  congr 2
  rw [List.getD_eq_getElem?_getD, List.getD_eq_getElem?_getD, List.getElem?_take_of_lt hi]
theorem take_all (l : List Int) (n : Nat) (h : n = l.length) : l.take n = l := by subst h; exact List.take_length
/-- one of some numbers that are written out -/
theorem among_lit (b B K : Nat) (W : World) (l : List Int) (cs : Array Value) (T : TypeId) (g n m : Nat) (hg : W.heap.size = g) (hcs : cs.toList = l.map (Value.int .i64)) (hm : m = l.length) (hn : n = m) (h : Cur W b B K) (hK : K ≤ 4503599627370496) (h1 : 1 ≤ l.length) (h2 : l.length ≤ 1000) :
    Calls Tryz.prog 36 #[.pointer (some ⟨b, 0, none⟩), .slice (some ⟨g, 0, none⟩) n m] (W.alloc (.cells cs T)) fun e w' => ∃ r : Int, e = .returned (.int .i64 r) ∧ r ∈ l ∧ Cur w' b B (K + 2) ∧ Chg (fun q => q = b) W w' := by
  have hb := h.lt
  have hr := RI.lit (fun q => q = b) W l cs T g n m hg hcs hm (by omega) (by omega) h2
  rw [take_all l n (by omega)] at hr
  refine (among_any b B K _ l _ (h.keep ((Chg.refl No W).alloc _)) hK hr h1 h2).mono ?_
  rintro e w' ⟨r, rfl, hm, hc, hk⟩
  exact ⟨r, rfl, hm, hc, ((Chg.refl (fun q => q = b) W).alloc _).trans hk⟩
set_option maxRecDepth 100000 in
set_option maxHeartbeats 1000000 in
theorem items_any (b B K : Nat) (w : World) (h : Cur w b B K) (hK : K ≤ 4000000000000000) :
    Calls Tryz.prog 15 #[.pointer (some ⟨b, 0, none⟩)] w fun e w' => ∃ r : Int, e = .returned (.int .i64 r) ∧ -1 ≤ r ∧ r ≤ 9 ∧ Cur w' b B (K + 4) ∧ Chg (fun q => q = b) w w' := by
  have hb := h.lt
  have h0 := h.keep ((Chg.refl No w).alloc (.cells #[.int .i64 3, .int .i64 4, .int .i64 5, .int .i64 2, .int .i64 6, .int .i64 8, .int .i64 1, .int .i64 0, .int .i64 9, .int .i64 (-1)] 3))
  have q1 := Lib.hid (pick_any b B K 24 _ h0 (by omega) (by omega))
  have hr : ∀ n, n ≤ 10 → RI (fun q => q = b) (w.alloc (.cells #[.int .i64 3, .int .i64 4, .int .i64 5, .int .i64 2, .int .i64 6, .int .i64 8, .int .i64 1, .int .i64 0, .int .i64 9, .int .i64 (-1)] 3)) (.slice (some ⟨w.heap.size, 0, none⟩) n 10) (([3, 4, 5, 2, 6, 8, 1, 0, 9, -1] : List Int).take n) := fun n hn => RI.lit _ w [3, 4, 5, 2, 6, 8, 1, 0, 9, -1] _ _ _ n 10 rfl rfl rfl hn (by omega) (by decide)
  have HR := Lib.hid hr
  clear hr h0
  go_enter Tryz.func15, Tryz.ntmps15
  go_wp2_with (first
    | (go_at_call 37; refine (q1.out).mono ?_; rintro e w1 ⟨x, rfl, hx0, hx1, _, hc1, hk1⟩; have hx2 := hx1 (by omega); have ht := Int.tdiv_eq_ediv_of_nonneg (a := x) (b := 8) hx0; obtain ⟨y, hy⟩ : ∃ y, x / 8 = y := ⟨_, rfl⟩; have hy0 : 0 ≤ y := (by omega); have hy1 : y ≤ 2 := (by omega); rw [hy] at ht; have hw1 : IntKind.i64.wrap y = y := IntWalk.i64_in _ (by omega); obtain ⟨m, hm⟩ : ∃ m : Nat, 7 + y = (m : Int) := ⟨(7 + y).toNat, by omega⟩; have hw2 : IntKind.i64.wrap (7 + y) = (m : Int) := (IntWalk.i64_in _ (by omega)).trans hm; have hm10 : m ≤ 10 := (by omega); have hm1 : 1 ≤ m := (by omega); have hsl : ∀ w' : World, (Instr.slice 25 (.slice (some ⟨w.heap.size, 0, none⟩) 10 10) none (some (.int .i64 (m : Int))) none).run Tryz.prog w' = .ok (.slice (some ⟨w.heap.size, 0, none⟩) m 10) w' := (fun w' => by rw [run_slice_h w' 25 _ 10 10 und_el .i64 _ (by omega) (by omega), run_sz]; simp [Result.andThen, sliced, Addr.add]); clear hm hy)
    | (go_at_call 36; refine (among_any b B (K + 2) _ (([3, 4, 5, 2, 6, 8, 1, 0, 9, -1] : List Int).take m) _ hc1 (by omega) ((HR.out m hm10).step hk1 (fun _ h => h)) (by rw [List.length_take]; simp; omega) (by rw [List.length_take]; simp; omega)).mono ?_; rintro e w2 ⟨r, rfl, hr, hc2, hk2⟩))
  go_ret
  have hr' := List.mem_of_mem_take hr
  refine ⟨r, rfl, ?_, ?_, hc2, (((Chg.refl (fun q => q = b) w).alloc _).trans hk1).trans hk2⟩
  all_goals
    simp only [List.mem_cons, List.not_mem_nil, or_false] at hr'
    omega
end Go.Proofs.YtdgcohoneijleaaGreat
