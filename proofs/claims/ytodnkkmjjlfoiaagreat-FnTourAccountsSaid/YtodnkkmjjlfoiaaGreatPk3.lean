import Derived.Test.YtodnkkmjjlfoiaaGreatO
import Derived.Test.YtodnkkmjjlfoiaaGreatC
import Derived.Test.YtodnkkmjjlfoiaaGreatPk2
/- run of the implementation: what its callback does is a premise -/
namespace Go.Proofs.YtodnkkmjjlfoiaaGreat
open Go.RowKit

/-- what a callback keeps: J j U w: j calls are done, the callback's own blocks are those of U -/
structure Each (f : FuncId) (cv : Value) (c : Ca) (l : List Int) (J : Nat → (Nat → Prop) → World → Prop) : Prop where
  lt : ∀ j U w, J j U w → ∀ q, U q → q < w.heap.size
  keep : ∀ j U w w' S, J j U w → Chg S w w' → (∀ q, U q → ¬ S q) → J j U w'
  call : ∀ j U w xb xa, j < l.length → J j U w → RI U w xb (runC c (l.take j)).pages → RI U w xa (runC c (l.take (j + 1))).pages →
    Calls Tryz.prog f #[.int .i64 (j : Int), xb, xa, .bool (!hasB (runC c (l.take j)).pages (l.getD j 0)), cv] w (Ret fun v' w' => v' = .tuple #[] ∧ ∃ U', J (j + 1) U' w' ∧ Chg U w w' ∧ ∀ q, U' q → U q ∨ w.heap.size ≤ q)

set_option maxRecDepth 100000 in
set_option maxHeartbeats 2000000 in
theorem run_any (f : FuncId) (cv : Value) (p k : Int) (v : Value) (l : List Int) (J : Nat → (Nat → Prop) → World → Prop) (U0 : Nat → Prop) (w : World) (hJ : Each f cv (newC p k) l J) (h0 : J 0 U0 w)
    (hcf : ∀ x0 x1 x2 x3 (w : World), (callFunc f #[x0, x1, x2, x3, cv]).run Tryz.prog w = .ok (.enter f #[x0, x1, x2, x3, cv]) w)
    (hv : RI U0 w v l) (hok : Ok (newC p k)) :
    Calls Tryz.prog 121 #[.int .i64 p, .int .i64 k, v, .func (.func f) #[] #[cv]] w (Ret fun v' w' => v' = .tuple #[] ∧ ∃ U', J l.length U' w' ∧ Chg U0 w w' ∧ ∀ q, U' q → U0 q ∨ w.heap.size ≤ q) := by
  obtain ⟨a, cap, rfl, hcap, hmax, hlen, _, hc⟩ := id hv
  go_enter Tryz.func121, Tryz.ntmps121
  go_wp2_with fail
  go_loopw [18] (fun i wr => ∃ (j : Nat) (pv mv : Value) (U : Nat → Prop), j ≤ l.length ∧ i = .int .i64 j ∧ MC w.heap.size wr w.heap.size (runC (newC p k) (l.take j)) pv mv ∧ J j U wr ∧ Chg U0 w wr ∧
      (∀ q, U q → U0 q ∨ w.heap.size ≤ q) ∧ (∀ q, foot w.heap.size pv mv q → ¬ U q)) (fun i _ => l.length - (intOf i).toNat)
  case atStart =>
    refine ⟨0, .slice none 0 0, .slice none 0 0, U0, Nat.zero_le _, rfl, ⟨Box.new w _ _ _ _ _ _, OI.nil _ _, OI.nil _ _, fun q hq => ?_, fun hq => ?_, fun hq => ?_⟩, hJ.keep _ _ _ _ No h0 ((Chg.refl No w).alloc _) (fun _ _ e => e), (Chg.refl U0 w).alloc _, fun q hq => .inl hq, fun q hq hU => ?_⟩
    · simp [own, Value.ownBlock] at hq
    · simp [own, Value.ownBlock] at hq
    · simp [own, Value.ownBlock] at hq
    · have := hJ.lt _ _ _ h0 q hU
      rcases hq with rfl | hq | hq
      · omega
      · simp [own, Value.ownBlock] at hq
      · simp [own, Value.ownBlock] at hq
  case round =>
    obtain ⟨j, pv, mv, U, hj, rfl, hM, hJj, hch, hU, hdis⟩ := hrel
    by_cases hlt : j < l.length
    · obtain ⟨br, off, rfl, hbr, hbl, hcell⟩ := hc (by intro e; simp [e] at hlt)
      have hcl := (hch.cellD br (off + j) hbl hbr).trans (hcell j hlt)
      obtain ⟨ck, hck⟩ : ∃ ck, runC (newC p k) (l.take j) = ck := ⟨_, rfl⟩
      have hokk : Ok ck := hck ▸ ok_run hok _
      have hrun := runC_snoc (newC p k) l j hlt
      have hcall := hJ.call j U
      have HC0 := hck
      obtain ⟨y, hy⟩ : ∃ y, l[j] = y := ⟨_, rfl⟩
      have hgy : l.getD j 0 = y := by rw [← hy, List.getD_eq_getElem?_getD, List.getElem?_eq_getElem hlt]; rfl
      rw [hck, hy] at hrun
      rw [hrun, hck, hgy] at hcall
      rw [hgy] at hcl
      rw [hck] at hM
      have HR := Lib.hid hrun
      have HC := Lib.hid hcall
      have hj0 : (0 : Int) ≤ (j : Int) := Int.natCast_nonneg _
      have hj1 : (j : Int) < (l.length : Int) := by omega
      have hw1 : IntKind.i64.wrap ((j : Int) + 1) = (j : Int) + 1 := IntWalk.i64_in _ (by omega)
      have HJ := Lib.hid hJ
      have HCF := Lib.hid hcf
      clear hcell hc hrun hcall hck HC0 hgy hy hJ
      obtain ⟨a1, n1, q1, rfl⟩ := hM.pages.shape
      have c2 := hM.box.c2
      go_wp2_with fail
      refine (Clone_any U _ ck.pages wr (hM.pages.read (fun q hq => hdis q (.inr (.inl hq))))).mono ?_
      rintro e w1 ⟨v1, rfl, o1, k1⟩
      have hM1 := hM.keep k1 (fun _ _ e => e)
      clear c2
      go_wp2_with fail
      refine (step_any w.heap.size w.heap.size ck y _ mv w1 hM1 (by have := hch.size; have := k1.size; omega) hokk).mono ?_
      rintro e w2 ⟨v2, rfl, rfl, hA⟩
      obtain ⟨pv2, mv2, A2⟩ := hA.am
      obtain ⟨a2, n2, q2, rfl⟩ := A2.mc.pages.shape
      have c2 := A2.mc.box.c2
      have hz1 := k1.size
      have hz2 := A2.ch.size
      have hd2 : ∀ q, foot w.heap.size (.slice a2 n2 q2) mv2 q → ¬ U q := fun q hq hU' => by
        rcases A2.fr q hq with h1 | h1
        · exact hdis q h1 hU'
        · have := HJ.out.lt _ _ _ hJj q hU'; omega
      go_wp2_with fail
      refine (Clone_any U _ _ w2 (A2.mc.pages.read (fun q hq => hd2 q (.inr (.inl hq))))).mono ?_
      rintro e w3 ⟨v3, rfl, o3, k3⟩
      have hz3 := k3.size
      clear c2
      have hcf := HCF.out
      go_wp2_with fail
      clear hcf
      have hJ3 := HJ.out.keep _ _ _ _ _ (HJ.out.keep _ _ _ _ _ (HJ.out.keep _ _ _ _ No hJj k1 (fun _ _ e => e)) A2.ch (fun q hq hq' => hdis q hq' hq)) k3 (fun _ _ e => e)
      have hlU := HJ.out.lt _ _ _ hJj
      refine (HC.out w3 v1 v3 hlt hJ3 (((o1.step A2.ch (fun q hq hq' => by have := (o1.lt q hq).1; have := hM.footLt q hq'; omega)).keep k3).read (fun q hq hq' => by have := (o1.lt q hq).1; have := hlU q hq'; omega))
        (o3.read (fun q hq hq' => by have := (o3.lt q hq).1; have := hlU q hq'; omega))).mono ?_
      rintro e w4 ⟨v4, rfl, rfl, U4, hJ4, k4, f4⟩
      go_wp2_with fail
      have hlo : ∀ q, foot w.heap.size (.slice a1 n1 q1) mv q → w.heap.size ≤ q := fun q hq => by
        rcases hq with rfl | hq | hq
        · exact Nat.le_refl _
        · exact (hM.pages.lt q hq).1
        · exact (hM.marks.lt q hq).1
      go_round
      case rel =>
        refine ⟨j + 1, .slice a2 n2 q2, mv2, U4, hlt, by go_num, ?_, hJ4, ?_, fun q hq => ?_, fun q hq hq' => ?_⟩
        · rw [HR.out]
          exact (A2.mc.keep k3 (fun _ _ e => e)).keep k4 (fun q hq => hd2 q hq)
        · refine ((((hch.keep k1).step A2.ch (fun q hq hl => ?_)).keep k3).step k4 (fun q hq hl => ?_))
          · have := hlo q hq; omega
          · rcases hU q hq with h1 | h1
            · exact h1
            · omega
        · rcases f4 q hq with h1 | h1
          · exact hU q h1
          · exact .inr (by have := hch.size; omega)
        · rcases f4 q hq' with h1 | h1
          · exact hd2 q hq h1
          · have := (A2.mc.keep k3 (fun _ _ e => e)).footLt q hq; omega
      case measure => simp [intOf]; omega
    · have hj' : j = l.length := by omega
      subst hj'
      go_wp2_with fail
      go_end0
      exact ⟨_, rfl, rfl, U, hJj, hch, hU⟩
end Go.Proofs.YtodnkkmjjlfoiaaGreat

namespace Go.Proofs.YtodnkkmjjlfoiaaGreat
open Go.RowKit

theorem fld4 (x0 x1 x2 x3 : Value) (z : Int) (w : World) : (Instr.field 67 (.agg #[x0, x1, x2, x3, .int .i64 z]) 4).run Tryz.prog w = .ok (.int .i64 z) w := by kernel_rfl

set_option maxRecDepth 100000 in
set_option maxHeartbeats 1000000 in
theorem l4Victim_any (A : Nat → Prop) (v : Value) (c : Ca) (w : World) (hv : RC A w v c) (hok : Ok c) (hf : (c.pages.length : Int) = c.size) :
    Calls Tryz.prog 177 #[v] w (Ret fun v' w' => v' = .int .i64 (victim c) ∧ Chg No w w') := by
  have hpol := hok.pol
  have hm := hok.marks
  have hs := hok.size
  obtain ⟨p, k, ps, ms, hd⟩ := c
  obtain ⟨pv, mv, rfl, hp, hmk⟩ := hv
  simp only at *
  obtain ⟨pa, pc, rfl, _, _, hlen, _⟩ := id hp
  obtain ⟨ma, mn, mc, rfl⟩ := hmk.shape
  have hcase : (p = 1 ∨ p = 2 ∨ p = 4) ∨ (p = 3 ∨ p = 7) ∨ p = 5 ∨ p = 6 := by omega
  have HF := Lib.hid hf
  clear hf
  rcases hcase with h | h | rfl | rfl
  · have e : victim ⟨p, k, ps, ms, hd⟩ = ps.length - 1 := by
      unfold victim
      rw [if_neg (by simp only; omega), if_neg (by simp only; omega), if_neg (by simp only; omega)]
    have h1 : 1 ≤ ps.length := by have := HF.out; omega
    rw [e]
    rcases h with rfl | rfl | rfl
    all_goals
      go_enter Tryz.func177, Tryz.ntmps177
      go_wp2_with fail
      go_ret
      exact ⟨_, rfl, congrArg (Value.int .i64) (by omega), (Chg.refl No w).alloc _⟩
  · have e : victim ⟨p, k, ps, ms, hd⟩ = 0 := by simp [victim, h]
    rw [e]
    rcases h with rfl | rfl
    all_goals
      go_enter Tryz.func177, Tryz.ntmps177
      go_wp2_with fail
      go_ret
      exact ⟨_, rfl, rfl, (Chg.refl No w).alloc _⟩
  · have e : victim ⟨5, k, ps, ms, hd⟩ = rarest ms := by simp [victim]
    rw [e]
    have hl : 0 < ms.length := by have := HF.out; have := hm (.inl rfl); omega
    go_enter Tryz.func177, Tryz.ntmps177
    go_wp2_with fail
    refine (l4Rarest_any A _ ms _ (hmk.keep ((Chg.refl No w).alloc _)) hl).mono ?_
    rintro e w1 ⟨v1, rfl, rfl, h1⟩
    go_wp2_with fail
    go_ret
    exact ⟨_, rfl, rfl, ((Chg.refl No w).alloc _).keep h1⟩
  · have e : victim ⟨6, k, ps, ms, hd⟩ = (turned ⟨6, k, ps, ms, hd⟩).2 := by simp [victim]
    rw [e]
    have hl : Hid (ms.length = k.toNat) := by have := HF.out; have := hm (.inr rfl); exact Lib.hid (by omega)
    go_enter Tryz.func177, Tryz.ntmps177
    go_wp2_with fail
    refine (l4Turn_any A _ _ ⟨6, k, ps, ms, hd⟩ _ (hp.keep ((Chg.refl No w).alloc _)) (hmk.keep ((Chg.refl No w).alloc _)) hok hl).mono ?_
    rintro e w1 ⟨v1, rfl, ⟨mv', rfl, h1, h2⟩⟩
    have hfd := fun (w : World) => fld4 (.int .i64 6) (.int .i64 k) (.slice pa ps.length pc) mv' (turned ⟨6, k, ps, ms, hd⟩).2 w
    go_wp2_with fail
    go_ret
    exact ⟨_, rfl, rfl, ((Chg.refl No w).alloc _).keep h2⟩

set_option maxRecDepth 100000 in
set_option maxHeartbeats 1000000 in
theorem l4Clock_room (A : Nat → Prop) (v : Value) (k : Int) (ps ms : List Int) (hd x : Int) (w : World) (hv : RC A w v ⟨6, k, ps, ms, hd⟩) (hA : Bd A w) (hf : (ps.length : Int) < k) (hml : ms.length < 17592186044416) (hk : k ≤ 6) :
    Calls Tryz.prog 176 #[v, .int .i64 x] w (Ret fun v' w' => RC A w' v' (clockC ⟨6, k, ps, ms, hd⟩ x) ∧ Chg No w w') := by
  have e : clockC ⟨6, k, ps, ms, hd⟩ x = ⟨6, k, ps ++ [x], ms ++ [1], hd⟩ := by simp [clockC, hf]
  rw [e]; clear e
  obtain ⟨pv, mv, rfl, hp, hmk⟩ := hv
  simp only at hp hmk ⊢
  obtain ⟨pa, pc, rfl, _⟩ := id hp
  obtain ⟨ma, mn, mc, rfl⟩ := hmk.shape
  go_enter Tryz.func176, Tryz.ntmps176
  go_wp2_with fail
  refine box3 (R := fun W => Calls _ _ _ W _) (fun W hW b0 b1 b2 => ?_)
  have hl2 := b2.lt
  refine (l1Own_any A _ _ _ (hp.keep hW)).mono ?_
  rintro e w1 ⟨v1, rfl, h1, h2⟩
  have z1 := h2.size
  go_wp2_with (at_builtin; refine wapp1 rfl (.tmp 15) (.tmp 17) rfl h1 rfl rfl (by omega) h2.size ?_)
  intro v2 w2 h3 h4 h5
  obtain ⟨a2, n2, c2, rfl⟩ := h3.shape
  have zW := hW.size
  have k2 := (hW.keep h2).own h4 h1 zW
  have n1 : ∀ q, q < W.heap.size → ¬ own v1 q := fun q hq ho => by have := (h1.lt q ho).1; omega
  have B1 := (b1.keep h2).step h4 (n1 _ b1.lt)
  have B2 := (b2.keep h2).step h4 (n1 _ b2.lt)
  have B0 := (b0.keep h2).step h4 (n1 _ b0.lt)
  have g2 := B2.c2
  have f2 := B2.fr 2
  have k2' := k2.setCell (p := ⟨w.heap.size + 1 + 1, 2, none⟩) (fun h => by simp at h; omega) (.slice a2 n2 c2)
  have B2' := B2.set2 (.slice a2 n2 c2)
  have B1' := B1.far ⟨w.heap.size + 1 + 1, 2, none⟩ (.slice a2 n2 c2) (by simp)
  have B0' := B0.far ⟨w.heap.size + 1 + 1, 2, none⟩ (.slice a2 n2 c2) (by simp; omega)
  have o2 := h3.set (w.heap.size + 1 + 1) 2 (.slice a2 n2 c2) (fun hq => by have := (h3.lt _ hq).1; omega)
  have m3 := B0'.c3
  go_wp2_with fail
  refine (l1Own_any A _ _ _ (hmk.keep k2')).mono ?_
  rintro e w3 ⟨v3, rfl, h6, h7⟩
  have z7 : w2.heap.size ≤ w3.heap.size := by have := h7.size; simpa using this
  go_wp2_with (at_builtin; refine wapp1 rfl (.tmp 22) (.tmp 23) rfl h6 rfl rfl hml h7.size ?_)
  intro v4 w4 h8 h9 h10
  obtain ⟨a4, n4, c4, rfl⟩ := h8.shape
  have hlt2 : w.heap.size + 1 + 1 < w2.heap.size := B2.lt
  have n3 : ∀ q, q < w2.heap.size → ¬ own v3 q := fun q hq ho => by have h : w2.heap.size ≤ q := (by have := (h6.lt q ho).1; simpa using this); omega
  have k4 := (k2'.keep h7).own h9 h6 (by simp; omega)
  have C2 := (B2'.keep h7).step h9 (n3 _ B2.lt)
  have C1 := (B1'.keep h7).step h9 (n3 _ B1.lt)
  have g3 := C2.c3
  have f3 := C2.fr 3
  have k5 := k4.setCell (p := ⟨w.heap.size + 1 + 1, 3, none⟩) (fun h => by simp at h; omega) (.slice a4 n4 c4)
  obtain ⟨q0, q1, q2, q3, q4, qf⟩ := C2.set3 (.slice a4 n4 c4)
  obtain ⟨r0, r1, r2, r3, r4, rf⟩ := C1.far ⟨w.heap.size + 1 + 1, 3, none⟩ (.slice a4 n4 c4) (by simp)
  go_wp2
  refine bodyPost_ret (v := .agg #[_, .int .i64 k, .slice a2 n2 c2, .slice a4 n4 c4, .int .i64 hd]) (by simp [results, Tryz.results176, go_sem, r0, r1, r2, r3, r4]; rfl) rfl ?_
  refine ⟨_, rfl, ⟨_, _, rfl, ?_, ?_⟩, k5.put5 (fun h => by omega) _ _ _ _ _⟩
  · have o4 := (o2.keep h7).step h9 (fun q hq => n3 q (by have := (o2.lt q hq).2; simpa using this))
    refine ((o4.set (w.heap.size + 1 + 1) 3 _ (fun hq => ?_)).put5 (fun q hq => ?_) _ _ _ _ _).readBd hA zW
    · have := (o4.lt _ hq).1; omega
    · have := (o4.lt q hq).1; omega
  · have hb8 : ∀ q, own (.slice a4 n4 c4) q → w2.heap.size ≤ q := fun q hq => by have := (h8.lt q hq).1; simpa using this
    have h8' : OI w2.heap.size w4 (.slice a4 n4 c4) (ms ++ [1]) := h8.weak (by simp)
    refine ((h8'.set (w.heap.size + 1 + 1) 3 _ (fun hq => ?_)).put5 (fun q hq => ?_) _ _ _ _ _).readBd hA (by omega)
    · have := hb8 _ hq; omega
    · have := hb8 q hq; omega

theorem l4Turn_to (A : Nat → Prop) (pv mv : Value) (p k : Int) (ps ms : List Int) (hd : Int) (w : World) (hp : RI A w pv ps) (hmk : RI A w mv ms) (hok : Ok ⟨p, k, ps, ms, hd⟩) (hm : Hid (ms.length = k.toNat)) (m' : List Int) (h' : Nat) (ht : Hid (turned ⟨p, k, ps, ms, hd⟩ = (m', h'))) :
    Calls Tryz.prog 183 #[.agg #[.int .i64 p, .int .i64 k, pv, mv, .int .i64 hd]] w
      (Ret fun v' w' => ∃ mv', v' = .agg #[.int .i64 p, .int .i64 k, pv, mv', .int .i64 h'] ∧ OI w.heap.size w' mv' m' ∧ Chg No w w') := by
  have h := l4Turn_any A pv mv ⟨p, k, ps, ms, hd⟩ w hp hmk hok hm
  rw [ht.out] at h
  exact h

set_option maxRecDepth 100000 in
set_option maxHeartbeats 1000000 in
theorem l4Clock_full (A : Nat → Prop) (v : Value) (k : Int) (ps ms : List Int) (hd x : Int) (w : World) (hv : RC A w v ⟨6, k, ps, ms, hd⟩) (hA : Bd A w) (hok : Ok ⟨6, k, ps, ms, hd⟩) (hf : Hid ((ps.length : Int) = k)) :
    Calls Tryz.prog 176 #[v, .int .i64 x] w (Ret fun v' w' => RC A w' v' (clockC ⟨6, k, ps, ms, hd⟩ x) ∧ Chg No w w') := by
  obtain ⟨m', h', ht⟩ : ∃ m' h', turned ⟨6, k, ps, ms, hd⟩ = (m', h') := ⟨_, _, rfl⟩
  have e : clockC ⟨6, k, ps, ms, hd⟩ x = ⟨6, k, ps.set h' x, m'.set h' 1, ((h' : Int) + 1) % k⟩ := by
    unfold clockC
    rw [ht, if_neg (by have := hf.out; simp only; omega)]
  rw [e]; clear e
  have hs := hok.size
  have hh := hok.hand
  simp only at hs hh
  obtain ⟨t1, t2, _⟩ := turn_props k.toNat (by omega) (ms.length + 1) ms hd.toNat (by omega)
  have ht' : turn k.toNat (ms.length + 1) ms hd.toNat = (m', h') := ht
  rw [ht'] at t1 t2
  simp only at t1 t2
  have hml := hok.marks (.inr rfl)
  simp only at hml
  have HL : Hid (ms.length = k.toNat) := Lib.hid (by have := hf.out; omega)
  have HT := Lib.hid ht
  have hps : h' < ps.length := by have := hf.out; omega
  have hmm : h' < m'.length := by have := hf.out; omega
  clear ht ht' t1 hml
  obtain ⟨pv, mv, rfl, hp, hmk⟩ := hv
  simp only at hp hmk ⊢
  obtain ⟨pa, pn, pc, rfl⟩ := hp.shape
  obtain ⟨ma, mn, mc, rfl⟩ := hmk.shape
  have hpk : ¬ ((pn : Int) < k) := by have := hp.n; have := hf.out; omega
  go_enter Tryz.func176, Tryz.ntmps176
  go_wp2_with fail
  refine box3 (R := fun W => Calls _ _ _ W _) (fun W hW b0 b1 b2 => ?_)
  have zW := hW.size
  have hl2 := b2.lt
  refine (l4Turn_to A _ _ 6 k ps ms hd _ (hp.keep hW) (hmk.keep hW) hok HL m' h' HT).mono ?_
  rintro e w1 ⟨v1, rfl, ⟨mv', rfl, h1, h2⟩⟩
  obtain ⟨a1, n1, c1, rfl⟩ := h1.shape
  have b0' := (b0.keep h2).far5 (w.heap.size + 1 + 1) (by omega) (.int .i64 6) (.int .i64 k) (.slice pa pn pc) (.slice a1 n1 c1) (.int .i64 h')
  have b1' := (b1.keep h2).far5 (w.heap.size + 1 + 1) (by omega) (.int .i64 6) (.int .i64 k) (.slice pa pn pc) (.slice a1 n1 c1) (.int .i64 h')
  have b2' := (b2.keep h2).put5 (.int .i64 6) (.int .i64 k) (.slice pa pn pc) (.slice a1 n1 c1) (.int .i64 h')
  have hz : ∀ q, own (.slice a1 n1 c1) q → W.heap.size ≤ q := fun q hq => (h1.lt q hq).1
  have o1 := h1.put5 (b := w.heap.size + 1 + 1) (fun q hq => by have := hz q hq; omega) (.int .i64 6) (.int .i64 k) (.slice pa pn pc) (.slice a1 n1 c1) (.int .i64 h')
  have k1 := (hW.keep h2).put5 (b := w.heap.size + 1 + 1) (fun h => by omega) (.int .i64 6) (.int .i64 k) (.slice pa pn pc) (.slice a1 n1 c1) (.int .i64 h')
  obtain ⟨p0, p1, p2, p3, p4, pf⟩ := b2.keep h2
  have pf0 := pf 0
  have pf1 := pf 1
  have pf2 := pf 2
  have pf3 := pf 3
  have pf4 := pf 4
  have p02 := (b0.keep h2).c2
  go_wp2_with fail
  refine (l4With_any A _ ps h' x _ (hp.keep k1) hps).mono ?_
  rintro e w2 ⟨v2, rfl, h3, h4⟩
  obtain ⟨a2, n2, c2, rfl⟩ := h3.shape
  have B0 := b0'.keep h4
  have B1 := b1'.keep h4
  have B2 := b2'.keep h4
  have k2 := k1.keep h4
  have o2 := o1.keep h4
  have hz2 : ∀ q, own (.slice a2 n2 c2) q → w1.heap.size ≤ q := fun q hq => by have := (h3.lt q hq).1; simpa using this
  have hzw : W.heap.size ≤ w1.heap.size := h2.size
  -- out.Pages = ..
  have k3 := k2.setCell (p := ⟨w.heap.size + 1 + 1, 2, none⟩) (fun h => by simp at h; omega) (.slice a2 n2 c2)
  have D0 := B0.far ⟨w.heap.size + 1 + 1, 2, none⟩ (.slice a2 n2 c2) (by simp; omega)
  have D1 := B1.far ⟨w.heap.size + 1 + 1, 2, none⟩ (.slice a2 n2 c2) (by simp)
  have D2 := B2.set2 (.slice a2 n2 c2)
  have o3 := o2.set (w.heap.size + 1 + 1) 2 (.slice a2 n2 c2) (fun hq => by have := hz _ hq; omega)
  have s3 := h3.set (w.heap.size + 1 + 1) 2 (.slice a2 n2 c2) (fun hq => by have := hz2 _ hq; omega)
  -- out.Marks[out.Hand] = 1
  obtain ⟨av, an, hav, _, _, hvv⟩ := o3.view
  obtain ⟨g, hg⟩ : ∃ g, a1 = some ⟨g, 0, none⟩ := by
    simp only [Value.slice.injEq] at hav
    obtain ⟨rfl, rfl, rfl⟩ := hav
    obtain ⟨g, hg, _⟩ := hvv (by omega)
    exact ⟨g, hg⟩
  clear hav hvv
  subst hg
  obtain ⟨hoc, hof, hob, hog, hon, honc, _⟩ := o3.at
  have hgz := hz g (own_slice.2 rfl)
  have hoc1 := hoc h' hmm
  have hof1 := hof h'
  clear hoc hof
  have hn1 : h' < n1 := by omega
  clear hon
  obtain ⟨o4, hch4⟩ := o3.store h' 1
  have k4 := k3.step hch4 (fun q hq hl => by omega)
  have E0 := D0.step hch4 (fun e => by omega)
  have E1 := D1.step hch4 (fun e => by omega)
  have E2 := D2.step hch4 (fun e => by omega)
  have s4 := s3.step hch4 (fun q hq e => by have := hz2 q hq; have := (h1.lt g (own_slice.2 rfl)).2; omega)
  -- out.Hand = ..
  have k5 := k4.setCell (p := ⟨w.heap.size + 1 + 1, 4, none⟩) (fun h => by simp at h; omega) (.int .i64 (((h' : Int) + 1) % k))
  have F1 := E1.far ⟨w.heap.size + 1 + 1, 4, none⟩ (.int .i64 (((h' : Int) + 1) % k)) (by simp)
  have F2 := E2.set4 (.int .i64 (((h' : Int) + 1) % k))
  obtain ⟨f0, f1, f2, f3, f4, ff⟩ := id F2
  obtain ⟨r0, r1, r2, r3, r4, rf⟩ := id F1
  obtain ⟨d0, d1, d2, d3, d4, df⟩ := id D2
  obtain ⟨e0, e1, e2, e3, e4, ef⟩ := id E2
  have e01 := E0.c1
  have bf2 := B2.fr 2
  have b22 := B2.c2
  have ef4 := ef 4
  go_wp2
  refine bodyPost_ret (v := .agg #[_, .int .i64 k, .slice a2 n2 c2, .slice (some ⟨g, 0, none⟩) n1 c1, .int .i64 (((h' : Int) + 1) % k)]) (by simp [results, Tryz.results176, go_sem, r0, r1, r2, r3, r4]; rfl) rfl ?_
  refine ⟨_, rfl, ⟨_, _, rfl, ?_, ?_⟩, k5.put5 (fun h => by omega) _ _ _ _ _⟩
  · have s4' : OI w1.heap.size _ (.slice a2 n2 c2) (ps.set h' x) := s4.weak (by simp)
    refine ((s4'.set (w.heap.size + 1 + 1) 4 _ (fun hq => ?_)).put5 (fun q hq => ?_) _ _ _ _ _).readBd hA (by omega)
    · have := hz2 _ hq; omega
    · have := hz2 q hq; omega
  · refine ((o4.set (w.heap.size + 1 + 1) 4 _ (fun hq => ?_)).put5 (fun q hq => ?_) _ _ _ _ _).readBd hA zW
    · have := own_slice.1 hq; omega
    · have := own_slice.1 hq; omega
end Go.Proofs.YtodnkkmjjlfoiaaGreat

namespace Go.Proofs.YtodnkkmjjlfoiaaGreat
open Go.RowKit

set_option maxRecDepth 100000 in
set_option maxHeartbeats 1000000 in
theorem l4Fault_6 (A : Nat → Prop) (v : Value) (k : Int) (ps ms : List Int) (hd x : Int) (w : World) (hv : RC A w v ⟨6, k, ps, ms, hd⟩) (hA : Bd A w) (hok : Ok ⟨6, k, ps, ms, hd⟩) :
    Calls Tryz.prog 156 #[v, .int .i64 x] w (Ret fun v' w' => RC A w' v' (faultC ⟨6, k, ps, ms, hd⟩ x) ∧ Chg No w w') := by
  have e : faultC ⟨6, k, ps, ms, hd⟩ x = clockC ⟨6, k, ps, ms, hd⟩ x := by simp [faultC]
  rw [e]; clear e
  obtain ⟨c', hc'⟩ : ∃ c', clockC ⟨6, k, ps, ms, hd⟩ x = c' := ⟨_, rfl⟩
  have hs := hok.size
  have hl := hok.len
  have hm := hok.marks (.inr rfl)
  simp only at hs hl hm
  have hc : ∀ A' W v, RC A' W v ⟨6, k, ps, ms, hd⟩ → Bd A' W → Calls Tryz.prog 176 #[v, .int .i64 x] W (Ret fun v' w' => RC A' w' v' c' ∧ Chg No W w') := by
    intro A' W v hv' hA'
    rw [← hc']
    by_cases hf : (ps.length : Int) = k
    · exact l4Clock_full A' v k ps ms hd x W hv' hA' hok (Lib.hid hf)
    · exact l4Clock_room A' v k ps ms hd x W hv' hA' (by omega) (by omega) (by omega)
  rw [hc']
  have HC := Lib.hid hc
  clear hm hc hc'
  have hv0 := hv
  obtain ⟨pv, mv, rfl, hp, hmk⟩ := hv
  simp only at hp hmk
  obtain ⟨pa, pn, pc, rfl⟩ := hp.shape
  obtain ⟨ma, mn, mc, rfl⟩ := hmk.shape
  have hB := fun o1 o2 => ((hA.alloc o1).alloc o2).and1 (b := w.heap.size + 1) (by simp)
  go_enter Tryz.func156, Tryz.ntmps156
  go_wp2_with fail
  refine (HC.out (And1 A (w.heap.size + 1)) _ _ (hv0.and1 (((Chg.refl No w).alloc _).alloc _) (by omega)) (hB _ _)).mono ?_
  rintro e w1 ⟨v1, rfl, ⟨pv', mv', rfl, h1, h2⟩, h3⟩
  obtain ⟨pa', pn', pc', rfl⟩ := h1.shape
  obtain ⟨ma', mn', mc', rfl⟩ := h2.shape
  have k1 := ((((Chg.refl No w).alloc _).alloc _).keep h3)
  obtain ⟨r0, r1, r2, r3, r4, rf⟩ := ((Box.new (w.alloc _) _ _ _ _ _ _).at (n := w.heap.size + 1) (by simp)).keep h3
  have rf0 := rf 0
  have rf1 := rf 1
  have rf2 := rf 2
  have rf3 := rf 3
  have rf4 := rf 4
  go_wp2
  refine bodyPost_ret (v := .agg #[.int .i64 c'.pol, .int .i64 c'.size, .slice pa' pn' pc', .slice ma' mn' mc', .int .i64 c'.hand]) (by simp [results, Tryz.results156, go_sem, r0, r1, r2, r3, r4]) rfl ?_
  exact ⟨_, rfl, ⟨_, _, rfl, h1.put5 _ _ _ _ _, h2.put5 _ _ _ _ _⟩, k1.put5 (fun h => by omega) _ _ _ _ _⟩

set_option maxRecDepth 100000 in
set_option maxHeartbeats 1000000 in
theorem l4Fault_room (A : Nat → Prop) (v : Value) (p k : Int) (ps ms : List Int) (hd x : Int) (w : World) (hv : RC A w v ⟨p, k, ps, ms, hd⟩) (hA : Bd A w) (hpp : p = 1 ∨ p = 2 ∨ p = 3 ∨ p = 4 ∨ p = 7) (hf : (ps.length : Int) < k) (hk : k ≤ 6) :
    Calls Tryz.prog 156 #[v, .int .i64 x] w (Ret fun v' w' => RC A w' v' (faultC ⟨p, k, ps, ms, hd⟩ x) ∧ Chg No w w') := by
  have e : faultC ⟨p, k, ps, ms, hd⟩ x = ⟨p, k, x :: ps, ms, hd⟩ := by
    unfold faultC
    rw [if_neg (by simp only; omega), if_neg (by simp only; omega), if_neg (by simp only; omega)]
  rw [e]; clear e
  obtain ⟨pv, mv, rfl, hp, hmk⟩ := hv
  simp only at hp hmk ⊢
  obtain ⟨pa, pn, pc, rfl⟩ := hp.shape
  obtain ⟨ma, mn, mc, rfl⟩ := hmk.shape
  have hpk : (pn : Int) < k := by have := hp.n; omega
  have hne : ((pn : Int) == k) = false := by simp; omega
  have hlen : ps.length < 17592186044416 := by omega
  rcases hpp with rfl | rfl | rfl | rfl | rfl
  all_goals
    go_enter Tryz.func156, Tryz.ntmps156
    go_wp2_with fail
    refine box3 (R := fun W => Calls _ _ _ W _) (fun W hW b0 b1 b2 => ?_)
    have zW := hW.size
    have hl2 := b2.lt
    refine (l4Front_any A _ _ _ _ (hp.keep hW) hlen).mono ?_
    rintro e w1 ⟨v1, rfl, h1, h2⟩
    obtain ⟨a1, n1, c1, rfl⟩ := h1.shape
    have k1 := hW.keep h2
    have B2 := b2.keep h2
    have hz : ∀ q, own (.slice a1 n1 c1) q → W.heap.size ≤ q := fun q hq => (h1.lt q hq).1
    have g2 := B2.c2
    have f2 := B2.fr 2
    have b00 := (b0.keep h2).c0
    obtain ⟨q0, q1, q2, q3, q4, qf⟩ := B2.set2 (.slice a1 n1 c1)
    obtain ⟨r0, r1, r2, r3, r4, rf⟩ := (b1.keep h2).far ⟨w.heap.size + 1 + 1, 2, none⟩ (.slice a1 n1 c1) (by simp)
    have k2 := k1.setCell (p := ⟨w.heap.size + 1 + 1, 2, none⟩) (fun h => by simp at h; omega) (.slice a1 n1 c1)
    go_wp2
    refine bodyPost_ret (v := .agg #[_, .int .i64 k, .slice a1 n1 c1, .slice ma mn mc, .int .i64 hd]) (by simp [results, Tryz.results156, go_sem, r0, r1, r2, r3, r4]; rfl) rfl ?_
    refine ⟨_, rfl, ⟨_, _, rfl, ?_, hmk.keep (k2.put5 (fun h => by omega) _ _ _ _ _)⟩, k2.put5 (fun h => by omega) _ _ _ _ _⟩
    refine ((h1.set (w.heap.size + 1 + 1) 2 _ (fun hq => ?_)).put5 (fun q hq => ?_) _ _ _ _ _).readBd hA zW
    · have := hz _ hq; omega
    · have := hz q hq; omega
end Go.Proofs.YtodnkkmjjlfoiaaGreat

namespace Go.Proofs.YtodnkkmjjlfoiaaGreat
open Go.RowKit

set_option maxRecDepth 100000 in
set_option maxHeartbeats 1000000 in
theorem l4Fault_room5 (A : Nat → Prop) (v : Value) (k : Int) (ps ms : List Int) (hd x : Int) (w : World) (hv : RC A w v ⟨5, k, ps, ms, hd⟩) (hA : Bd A w) (hf : (ps.length : Int) < k) (hk : k ≤ 6) (hml : ms.length = ps.length) :
    Calls Tryz.prog 156 #[v, .int .i64 x] w (Ret fun v' w' => RC A w' v' (faultC ⟨5, k, ps, ms, hd⟩ x) ∧ Chg No w w') := by
  have e : faultC ⟨5, k, ps, ms, hd⟩ x = ⟨5, k, x :: ps, 1 :: ms, hd⟩ := by
    unfold faultC
    rw [if_neg (by simp only; omega), if_neg (by simp only; omega), if_pos rfl, if_neg (by simp only; omega)]
  rw [e]; clear e
  obtain ⟨pv, mv, rfl, hp, hmk⟩ := hv
  simp only at hp hmk ⊢
  obtain ⟨pa, pn, pc, rfl⟩ := hp.shape
  obtain ⟨ma, mn, mc, rfl⟩ := hmk.shape
  have hpk : (pn : Int) < k := by have := hp.n; omega
  have hne : ((pn : Int) == k) = false := by simp; omega
  have hlen : ps.length < 17592186044416 := by omega
  have hlen2 : ms.length < 17592186044416 := by omega
  clear hml
  go_enter Tryz.func156, Tryz.ntmps156
  go_wp2_with fail
  refine box3 (R := fun W => Calls _ _ _ W _) (fun W hW b0 b1 b2 => ?_)
  have zW := hW.size
  have hl2 := b2.lt
  refine (l4Front_any A _ _ _ _ (hp.keep hW) hlen).mono ?_
  rintro e w1 ⟨v1, rfl, h1, h2⟩
  obtain ⟨a1, n1, c1, rfl⟩ := h1.shape
  have k1 := hW.keep h2
  have B2 := b2.keep h2
  have hz : ∀ q, own (.slice a1 n1 c1) q → W.heap.size ≤ q := fun q hq => (h1.lt q hq).1
  have g2 := B2.c2
  have f2 := B2.fr 2
  have B0 := (b0.keep h2).far ⟨w.heap.size + 1 + 1, 2, none⟩ (.slice a1 n1 c1) (by simp; omega)
  have B1 := (b1.keep h2).far ⟨w.heap.size + 1 + 1, 2, none⟩ (.slice a1 n1 c1) (by simp)
  have C2 := B2.set2 (.slice a1 n1 c1)
  have k2 := k1.setCell (p := ⟨w.heap.size + 1 + 1, 2, none⟩) (fun h => by simp at h; omega) (.slice a1 n1 c1)
  have o1 := h1.set (w.heap.size + 1 + 1) 2 (.slice a1 n1 c1) (fun hq => by have := hz _ hq; omega)
  have b00 := (b0.keep h2).c0
  have c23 := B2.c3
  go_wp2_with fail
  refine (l4Front_any A _ _ _ _ (hmk.keep k2) hlen2).mono ?_
  rintro e w3 ⟨v3, rfl, h3, h4⟩
  obtain ⟨a3, n3, c3, rfl⟩ := h3.shape
  have k3 := k2.keep h4
  have D2 := C2.keep h4
  have o3 := o1.keep h4
  have hz3 : ∀ q, own (.slice a3 n3 c3) q → w1.heap.size ≤ q := fun q hq => by have := (h3.lt q hq).1; simpa using this
  have hzw : W.heap.size ≤ w1.heap.size := h2.size
  have g3 := D2.c3
  have f3 := D2.fr 3
  obtain ⟨q0, q1, q2, q3, q4, qf⟩ := D2.set3 (.slice a3 n3 c3)
  obtain ⟨r0, r1, r2, r3, r4, rf⟩ := (B1.keep h4).far ⟨w.heap.size + 1 + 1, 3, none⟩ (.slice a3 n3 c3) (by simp)
  have k4 := k3.setCell (p := ⟨w.heap.size + 1 + 1, 3, none⟩) (fun h => by simp at h; omega) (.slice a3 n3 c3)
  go_wp2
  refine bodyPost_ret (v := .agg #[_, .int .i64 k, .slice a1 n1 c1, .slice a3 n3 c3, .int .i64 hd]) (by simp [results, Tryz.results156, go_sem, r0, r1, r2, r3, r4]; rfl) rfl ?_
  refine ⟨_, rfl, ⟨_, _, rfl, ?_, ?_⟩, k4.put5 (fun h => by omega) _ _ _ _ _⟩
  · refine ((o3.set (w.heap.size + 1 + 1) 3 _ (fun hq => ?_)).put5 (fun q hq => ?_) _ _ _ _ _).readBd hA zW
    · have := hz _ hq; omega
    · have := hz q hq; omega
  · have h3' : OI w1.heap.size w3 (.slice a3 n3 c3) (1 :: ms) := h3.weak (by simp)
    refine ((h3'.set (w.heap.size + 1 + 1) 3 _ (fun hq => ?_)).put5 (fun q hq => ?_) _ _ _ _ _).readBd hA (by omega)
    · have := hz3 _ hq; omega
    · have := hz3 q hq; omega

set_option maxRecDepth 100000 in
set_option maxHeartbeats 1000000 in
theorem l4Fault_full (A : Nat → Prop) (v : Value) (p k : Int) (ps ms : List Int) (hd x : Int) (w : World) (hv : RC A w v ⟨p, k, ps, ms, hd⟩) (hA : Bd A w) (hok : Ok ⟨p, k, ps, ms, hd⟩) (hpp : p = 1 ∨ p = 2 ∨ p = 3 ∨ p = 7) (hf : Hid ((ps.length : Int) = k)) :
    Calls Tryz.prog 156 #[v, .int .i64 x] w (Ret fun v' w' => RC A w' v' (faultC ⟨p, k, ps, ms, hd⟩ x) ∧ Chg No w w') := by
  obtain ⟨at', hat⟩ : ∃ q, victim ⟨p, k, ps, ms, hd⟩ = q := ⟨_, rfl⟩
  have hk := hok.size
  simp only at hk
  have hlen : at' < ps.length := by
    have := victim_lt hok (by simp only; have := hf.out; omega) (by simp only; omega)
    rw [hat] at this
    exact this
  have e : faultC ⟨p, k, ps, ms, hd⟩ x = ⟨p, k, x :: ps.eraseIdx at', ms, hd⟩ := by
    unfold faultC
    rw [if_neg (by simp only; omega), if_pos hf.out, if_neg (by simp only; omega), if_neg (by simp only; omega), hat]
  rw [e]; clear e
  have hl6 : ps.length ≤ 6 := by have := hf.out; omega
  have hvic : ∀ A' W v, RC A' W v ⟨p, k, ps, ms, hd⟩ → Calls Tryz.prog 177 #[v] W (Ret fun v' w' => v' = .int .i64 at' ∧ Chg No W w') := by
    intro A' W v hv
    have := l4Victim_any A' v _ W hv hok hf.out
    rw [hat] at this
    exact this
  have HV := Lib.hid hvic
  clear hvic hat
  have hv0 := hv
  obtain ⟨pv, mv, rfl, hp, hmk⟩ := hv
  simp only at hp hmk ⊢
  obtain ⟨pa, pn, pc, rfl⟩ := hp.shape
  obtain ⟨ma, mn, mc, rfl⟩ := hmk.shape
  have hpk : ((pn : Int) == k) = true := by have := hp.n; have := hf.out; simp; omega
  clear hok
  rcases hpp with rfl | rfl | rfl | rfl
  all_goals
    go_enter Tryz.func156, Tryz.ntmps156
    go_wp2_with fail
    refine box3 (R := fun W => Calls _ _ _ W _) (fun W hW b0 b1 b2 => ?_)
    have zW := hW.size
    have hl2 := b2.lt
    refine (HV.out A _ _ (hv0.keep hW)).mono ?_
    rintro e w0 ⟨v0, rfl, rfl, h0⟩
    have b0 := b0.keep h0
    have b1 := b1.keep h0
    have b2 := b2.keep h0
    have hW := hW.keep h0
    have zW := hW.size
    have hl2 := b2.lt
    have p00 := b0.c0
    have p02 := b0.c2
    go_wp2_with fail
    refine (l4Without_any A _ ps at' _ (hp.keep hW) hlen).mono ?_
    rintro e w1 ⟨v1, rfl, h1, h2⟩
    obtain ⟨a1, n1, c1, rfl⟩ := h1.shape
    have k1 := hW.keep h2
    have B2 := b2.keep h2
    have hz : ∀ q, own (.slice a1 n1 c1) q → w0.heap.size ≤ q := fun q hq => (h1.lt q hq).1
    have g2 := B2.c2
    have f2 := B2.fr 2
    have B0 := (b0.keep h2).far ⟨w.heap.size + 1 + 1, 2, none⟩ (.slice a1 n1 c1) (by simp; omega)
    have B1 := (b1.keep h2).far ⟨w.heap.size + 1 + 1, 2, none⟩ (.slice a1 n1 c1) (by simp)
    have C2 := B2.set2 (.slice a1 n1 c1)
    have k2 := k1.setCell (p := ⟨w.heap.size + 1 + 1, 2, none⟩) (fun h => by simp at h; omega) (.slice a1 n1 c1)
    have o1 := h1.set (w.heap.size + 1 + 1) 2 (.slice a1 n1 c1) (fun hq => by have := hz _ hq; omega)
    have b00 := (b0.keep h2).c0
    go_wp2_with fail
    refine (l4Front_any No _ _ _ _ o1.readNo (by have := h1.len; rw [List.length_eraseIdx_of_lt hlen] at *; omega)).mono ?_
    rintro e w3 ⟨v3, rfl, h3, h4⟩
    obtain ⟨a3, n3, c3, rfl⟩ := h3.shape
    have k3 := k2.keep h4
    have D2 := C2.keep h4
    have hz3 : ∀ q, own (.slice a3 n3 c3) q → w1.heap.size ≤ q := fun q hq => by have := (h3.lt q hq).1; simpa using this
    have hzw : w0.heap.size ≤ w1.heap.size := h2.size
    have g3 := D2.c2
    have f3 := D2.fr 2
    have d00 := (B0.keep h4).c0
    obtain ⟨q0, q1, q2, q3, q4, qf⟩ := D2.set2 (.slice a3 n3 c3)
    obtain ⟨r0, r1, r2, r3, r4, rf⟩ := (B1.keep h4).far ⟨w.heap.size + 1 + 1, 2, none⟩ (.slice a3 n3 c3) (by simp)
    have k4 := k3.setCell (p := ⟨w.heap.size + 1 + 1, 2, none⟩) (fun h => by simp at h; omega) (.slice a3 n3 c3)
    go_wp2
    refine bodyPost_ret (v := .agg #[_, .int .i64 k, .slice a3 n3 c3, .slice ma mn mc, .int .i64 hd]) (by simp [results, Tryz.results156, go_sem, r0, r1, r2, r3, r4]; rfl) rfl ?_
    refine ⟨_, rfl, ⟨_, _, rfl, ?_, hmk.keep (k4.put5 (fun h => by omega) _ _ _ _ _)⟩, k4.put5 (fun h => by omega) _ _ _ _ _⟩
    have h3' : OI w1.heap.size w3 (.slice a3 n3 c3) (x :: ps.eraseIdx at') := h3.weak (by simp)
    refine ((h3'.set (w.heap.size + 1 + 1) 2 _ (fun hq => ?_)).put5 (fun q hq => ?_) _ _ _ _ _).readBd hA (by omega)
    · have := hz3 _ hq; omega
    · have := hz3 q hq; omega
end Go.Proofs.YtodnkkmjjlfoiaaGreat

namespace Go.Proofs.YtodnkkmjjlfoiaaGreat
open Go.RowKit

set_option maxRecDepth 100000 in
set_option maxHeartbeats 1000000 in
theorem l4Fault_full5 (A : Nat → Prop) (v : Value) (k : Int) (ps ms : List Int) (hd x : Int) (w : World) (hv : RC A w v ⟨5, k, ps, ms, hd⟩) (hA : Bd A w) (hok : Ok ⟨5, k, ps, ms, hd⟩) (hf : Hid ((ps.length : Int) = k)) :
    Calls Tryz.prog 156 #[v, .int .i64 x] w (Ret fun v' w' => RC A w' v' (faultC ⟨5, k, ps, ms, hd⟩ x) ∧ Chg No w w') := by
  obtain ⟨at', hat⟩ : ∃ q, victim ⟨5, k, ps, ms, hd⟩ = q := ⟨_, rfl⟩
  have hk := hok.size
  simp only at hk
  have hlen : at' < ps.length := by
    have := victim_lt hok (by simp only; have := hf.out; omega) (by simp only; omega)
    rw [hat] at this
    exact this
  have e : faultC ⟨5, k, ps, ms, hd⟩ x = ⟨5, k, x :: ps.eraseIdx at', 1 :: ms.eraseIdx at', hd⟩ := by
    unfold faultC
    rw [if_neg (by simp only; omega), if_pos hf.out, if_neg (by simp only; omega), if_pos rfl, if_pos hf.out, hat]
  rw [e]; clear e
  have hml := hok.marks (.inl rfl)
  simp only at hml
  have hlen5 : at' < ms.length := by omega
  have hl65 : ms.length ≤ 6 := by have := hf.out; omega
  clear hml
  have hl6 : ps.length ≤ 6 := by have := hf.out; omega
  have hvic : ∀ A' W v, RC A' W v ⟨5, k, ps, ms, hd⟩ → Calls Tryz.prog 177 #[v] W (Ret fun v' w' => v' = .int .i64 at' ∧ Chg No W w') := by
    intro A' W v hv
    have := l4Victim_any A' v _ W hv hok hf.out
    rw [hat] at this
    exact this
  have HV := Lib.hid hvic
  clear hvic hat
  have hv0 := hv
  obtain ⟨pv, mv, rfl, hp, hmk⟩ := hv
  simp only at hp hmk ⊢
  obtain ⟨pa, pn, pc, rfl⟩ := hp.shape
  obtain ⟨ma, mn, mc, rfl⟩ := hmk.shape
  have hpk : ((pn : Int) == k) = true := by have := hp.n; have := hf.out; simp; omega
  clear hok
  go_enter Tryz.func156, Tryz.ntmps156
  go_wp2_with fail
  refine box3 (R := fun W => Calls _ _ _ W _) (fun W hW b0 b1 b2 => ?_)
  have zW := hW.size
  have hl2 := b2.lt
  refine (HV.out A _ _ (hv0.keep hW)).mono ?_
  rintro e w0 ⟨v0, rfl, rfl, h0⟩
  have b0 := b0.keep h0
  have b1 := b1.keep h0
  have b2 := b2.keep h0
  have hW := hW.keep h0
  have zW := hW.size
  have hl2 := b2.lt
  have p00 := b0.c0
  have p02 := b0.c2
  go_wp2_with fail
  refine (l4Without_any A _ ps at' _ (hp.keep hW) hlen).mono ?_
  rintro e w1 ⟨v1, rfl, h1, h2⟩
  obtain ⟨a1, n1, c1, rfl⟩ := h1.shape
  have k1 := hW.keep h2
  have B2 := b2.keep h2
  have hz : ∀ q, own (.slice a1 n1 c1) q → w0.heap.size ≤ q := fun q hq => (h1.lt q hq).1
  have g2 := B2.c2
  have f2 := B2.fr 2
  have B0 := (b0.keep h2).far ⟨w.heap.size + 1 + 1, 2, none⟩ (.slice a1 n1 c1) (by simp; omega)
  have B1 := (b1.keep h2).far ⟨w.heap.size + 1 + 1, 2, none⟩ (.slice a1 n1 c1) (by simp)
  have C2 := B2.set2 (.slice a1 n1 c1)
  have k2 := k1.setCell (p := ⟨w.heap.size + 1 + 1, 2, none⟩) (fun h => by simp at h; omega) (.slice a1 n1 c1)
  have o1 := h1.set (w.heap.size + 1 + 1) 2 (.slice a1 n1 c1) (fun hq => by have := hz _ hq; omega)
  have b00 := (b0.keep h2).c0
  have b03 := (b0.keep h2).c3
  go_wp2_with fail
  refine (l4Without_any A _ ms at' _ (hmk.keep k2) hlen5).mono ?_
  rintro e w5 ⟨v5, rfl, h5, h6⟩
  obtain ⟨a5, n5, c5, rfl⟩ := h5.shape
  have k5 := k2.keep h6
  have E2 := C2.keep h6
  have e3 := E2.c3
  have ef := E2.fr 3
  have o5 := o1.keep h6
  have hz5 : ∀ q, own (.slice a5 n5 c5) q → w1.heap.size ≤ q := fun q hq => by have := (h5.lt q hq).1; simpa using this
  have hzw : w0.heap.size ≤ w1.heap.size := h2.size
  have hz15 : w1.heap.size ≤ w5.heap.size := by have := h6.size; simpa using this
  have G0 := (B0.keep h6).far ⟨w.heap.size + 1 + 1, 3, none⟩ (.slice a5 n5 c5) (by simp; omega)
  have G1 := (B1.keep h6).far ⟨w.heap.size + 1 + 1, 3, none⟩ (.slice a5 n5 c5) (by simp)
  have G2 := E2.set3 (.slice a5 n5 c5)
  have k6 := k5.setCell (p := ⟨w.heap.size + 1 + 1, 3, none⟩) (fun h => by simp at h; omega) (.slice a5 n5 c5)
  have o6 := o5.set (w.heap.size + 1 + 1) 3 (.slice a5 n5 c5) (fun hq => by have := hz _ hq; omega)
  have s6 := h5.set (w.heap.size + 1 + 1) 3 (.slice a5 n5 c5) (fun hq => by have := hz5 _ hq; omega)
  have e2c := E2.c2
  go_wp2_with fail
  refine (l4Front_any No _ _ _ _ o6.readNo (by rw [List.length_eraseIdx_of_lt hlen]; omega)).mono ?_
  rintro e w3 ⟨v3, rfl, h3, h4⟩
  obtain ⟨a3, n3, c3, rfl⟩ := h3.shape
  have k3 := k6.keep h4
  have D2 := G2.keep h4
  have D1 := G1.keep h4
  have D0 := G0.keep h4
  have o3 := s6.keep h4
  have hz3 : ∀ q, own (.slice a3 n3 c3) q → w5.heap.size ≤ q := fun q hq => by have := (h3.lt q hq).1; simpa using this
  have hz53 : w5.heap.size ≤ w3.heap.size := by have := h4.size; simpa using this
  have g3 := D2.c2
  have f3 := D2.fr 2
  have d00 := D0.c0
  have H2 := D2.set2 (.slice a3 n3 c3)
  have H1 := D1.far ⟨w.heap.size + 1 + 1, 2, none⟩ (.slice a3 n3 c3) (by simp)
  have k4 := k3.setCell (p := ⟨w.heap.size + 1 + 1, 2, none⟩) (fun h => by simp at h; omega) (.slice a3 n3 c3)
  have o7 := h3.set (w.heap.size + 1 + 1) 2 (.slice a3 n3 c3) (fun hq => by have := hz3 _ hq; omega)
  have o8 := o3.set (w.heap.size + 1 + 1) 2 (.slice a3 n3 c3) (fun hq => by have := hz5 _ hq; omega)
  have d23 := D2.c3
  go_wp2_with fail
  refine (l4Front_any No _ _ _ _ o8.readNo (by rw [List.length_eraseIdx_of_lt hlen5]; omega)).mono ?_
  rintro e w7 ⟨v7, rfl, h7, h8⟩
  obtain ⟨a7, n7, c7, rfl⟩ := h7.shape
  have k7 := k4.keep h8
  have J2 := H2.keep h8
  have J1 := H1.keep h8
  have o9 := o7.keep h8
  have hz7 : ∀ q, own (.slice a7 n7 c7) q → w3.heap.size ≤ q := fun q hq => by have := (h7.lt q hq).1; simpa using this
  have j3 := J2.c3
  have jf := J2.fr 3
  obtain ⟨q0, q1, q2, q3, q4, qf⟩ := J2.set3 (.slice a7 n7 c7)
  obtain ⟨r0, r1, r2, r3, r4, rf⟩ := J1.far ⟨w.heap.size + 1 + 1, 3, none⟩ (.slice a7 n7 c7) (by simp)
  have k8 := k7.setCell (p := ⟨w.heap.size + 1 + 1, 3, none⟩) (fun h => by simp at h; omega) (.slice a7 n7 c7)
  go_wp2
  refine bodyPost_ret (v := .agg #[_, .int .i64 k, .slice a3 n3 c3, .slice a7 n7 c7, .int .i64 hd]) (by simp [results, Tryz.results156, go_sem, r0, r1, r2, r3, r4]; rfl) rfl ?_
  refine ⟨_, rfl, ⟨_, _, rfl, ?_, ?_⟩, k8.put5 (fun h => by omega) _ _ _ _ _⟩
  · have h3' : OI w5.heap.size _ (.slice a3 n3 c3) (x :: ps.eraseIdx at') := o9.weak (by simp)
    refine ((h3'.set (w.heap.size + 1 + 1) 3 _ (fun hq => ?_)).put5 (fun q hq => ?_) _ _ _ _ _).readBd hA (by omega)
    · have := hz3 _ hq; omega
    · have := hz3 q hq; omega
  · have h7' : OI w3.heap.size w7 (.slice a7 n7 c7) (1 :: ms.eraseIdx at') := h7.weak (by simp)
    refine ((h7'.set (w.heap.size + 1 + 1) 3 _ (fun hq => ?_)).put5 (fun q hq => ?_) _ _ _ _ _).readBd hA (by omega)
    · have := hz7 _ hq; omega
    · have := hz7 q hq; omega

set_option maxRecDepth 100000 in
set_option maxHeartbeats 1000000 in
theorem l4Fault_full4 (A : Nat → Prop) (v : Value) (k : Int) (ps ms : List Int) (hd x : Int) (w : World) (hv : RC A w v ⟨4, k, ps, ms, hd⟩) (hA : Bd A w) (hok : Ok ⟨4, k, ps, ms, hd⟩) (hf : Hid ((ps.length : Int) = k)) :
    Calls Tryz.prog 156 #[v, .int .i64 x] w (Ret fun v' w' => RC A w' v' (faultC ⟨4, k, ps, ms, hd⟩ x) ∧ Chg No w w') := by
  obtain ⟨at', hat⟩ : ∃ q, victim ⟨4, k, ps, ms, hd⟩ = q := ⟨_, rfl⟩
  have hk := hok.size
  simp only at hk
  have e : faultC ⟨4, k, ps, ms, hd⟩ x = ⟨4, k, [x], ms, hd⟩ := by
    unfold faultC
    rw [if_neg (by simp only; omega), if_pos hf.out, if_pos rfl, if_neg (by simp only; omega)]
  rw [e]; clear e
  have hvic : ∀ A' W v, RC A' W v ⟨4, k, ps, ms, hd⟩ → Calls Tryz.prog 177 #[v] W (Ret fun v' w' => v' = .int .i64 at' ∧ Chg No W w') := by
    intro A' W v hv
    have := l4Victim_any A' v _ W hv hok hf.out
    rw [hat] at this
    exact this
  have HV := Lib.hid hvic
  clear hvic hat
  have hv0 := hv
  obtain ⟨pv, mv, rfl, hp, hmk⟩ := hv
  simp only at hp hmk ⊢
  obtain ⟨pa, pn, pc, rfl⟩ := hp.shape
  obtain ⟨ma, mn, mc, rfl⟩ := hmk.shape
  have hpk : ((pn : Int) == k) = true := by have := hp.n; have := hf.out; simp; omega
  clear hok
  go_enter Tryz.func156, Tryz.ntmps156
  go_wp2_with fail
  refine box3 (R := fun W => Calls _ _ _ W _) (fun W hW b0 b1 b2 => ?_)
  refine (HV.out A _ _ (hv0.keep hW)).mono ?_
  rintro e w0 ⟨v0, rfl, rfl, h0⟩
  have b0 := b0.keep h0
  have b1 := b1.keep h0
  have b2 := b2.keep h0
  have hW := hW.keep h0
  have zW := hW.size
  have hl2 := b2.lt
  have p00 := b0.c0
  have l0 := b0.lt
  have p22 := b2.c2
  have pf2 := b2.fr 2
  have p23 := b2.c3
  have B0 := (b0.far ⟨w.heap.size + 1 + 1, 2, none⟩ (.slice (some ⟨w0.heap.size, 0, none⟩) 0 0) (by simp; omega)).keep ((Chg.refl No _).alloc (.cells #[] 3))
  have B1 := (b1.far ⟨w.heap.size + 1 + 1, 2, none⟩ (.slice (some ⟨w0.heap.size, 0, none⟩) 0 0) (by simp)).keep ((Chg.refl No _).alloc (.cells #[] 3))
  have C2 := (b2.set2 (.slice (some ⟨w0.heap.size, 0, none⟩) 0 0)).keep ((Chg.refl No _).alloc (.cells #[] 3))
  have k2 := (hW.setCell (p := ⟨w.heap.size + 1 + 1, 2, none⟩) (fun h => by simp at h; omega) (.slice (some ⟨w0.heap.size, 0, none⟩) 0 0)).alloc (.cells #[] 3)
  go_wp2_with fail
  refine (l4Front_any No _ [] _ _ (RI.empty No _ _ 0 (by omega) (by simp)) (by simp)).mono ?_
  rintro e w3 ⟨v3, rfl, h3, h4⟩
  obtain ⟨a3, n3, c3, rfl⟩ := h3.shape
  have k3 := k2.keep h4
  have D2 := C2.keep h4
  have hz3 : ∀ q, own (.slice a3 n3 c3) q → w0.heap.size ≤ q := fun q hq => by have := (h3.lt q hq).1; simp at this; omega
  have g3 := D2.c2
  have f3 := D2.fr 2
  have d00 := (B0.keep h4).c0
  obtain ⟨q0, q1, q2, q3, q4, qf⟩ := D2.set2 (.slice a3 n3 c3)
  obtain ⟨r0, r1, r2, r3, r4, rf⟩ := (B1.keep h4).far ⟨w.heap.size + 1 + 1, 2, none⟩ (.slice a3 n3 c3) (by simp)
  have k4 := k3.setCell (p := ⟨w.heap.size + 1 + 1, 2, none⟩) (fun h => by simp at h; omega) (.slice a3 n3 c3)
  go_wp2
  refine bodyPost_ret (v := .agg #[_, .int .i64 k, .slice a3 n3 c3, .slice ma mn mc, .int .i64 hd]) (by simp [results, Tryz.results156, go_sem, r0, r1, r2, r3, r4]; rfl) rfl ?_
  refine ⟨_, rfl, ⟨_, _, rfl, ?_, hmk.keep (k4.put5 (fun h => by omega) _ _ _ _ _)⟩, k4.put5 (fun h => by omega) _ _ _ _ _⟩
  have h3' : OI w0.heap.size w3 (.slice a3 n3 c3) [x] := h3.weak (by simp)
  refine ((h3'.set (w.heap.size + 1 + 1) 2 _ (fun hq => ?_)).put5 (fun q hq => ?_) _ _ _ _ _).readBd hA (by omega)
  · have := hz3 _ hq; omega
  · have := hz3 q hq; omega

theorem l4Fault_any (A : Nat → Prop) (v : Value) (c : Ca) (x : Int) (w : World) (hv : RC A w v c) (hA : Bd A w) (hok : Ok c) :
    Calls Tryz.prog 156 #[v, .int .i64 x] w (Ret fun v' w' => RC A w' v' (faultC c x) ∧ Chg No w w') := by
  have hpol := hok.pol
  have hs := hok.size
  have hl := hok.len
  have hm := hok.marks
  obtain ⟨p, k, ps, ms, hd⟩ := c
  simp only at *
  have hcase : p = 6 ∨ p = 5 ∨ p = 4 ∨ (p = 1 ∨ p = 2 ∨ p = 3 ∨ p = 7) := by omega
  by_cases hf : (ps.length : Int) = k
  · rcases hcase with rfl | rfl | rfl | h
    · exact l4Fault_6 A v k ps ms hd x w hv hA hok
    · exact l4Fault_full5 A v k ps ms hd x w hv hA hok (Lib.hid hf)
    · exact l4Fault_full4 A v k ps ms hd x w hv hA hok (Lib.hid hf)
    · exact l4Fault_full A v p k ps ms hd x w hv hA hok h (Lib.hid hf)
  · rcases hcase with rfl | rfl | rfl | h
    · exact l4Fault_6 A v k ps ms hd x w hv hA hok
    · exact l4Fault_room5 A v k ps ms hd x w hv hA (by omega) (by omega) (hm (.inl rfl))
    · exact l4Fault_room A v 4 k ps ms hd x w hv hA (by omega) (by omega) (by omega)
    · exact l4Fault_room A v p k ps ms hd x w hv hA (by omega) (by omega) (by omega)

set_option maxRecDepth 100000 in
set_option maxHeartbeats 1000000 in
theorem l4Step_any (A : Nat → Prop) (v : Value) (c : Ca) (x : Int) (w : World) (hv : RC A w v c) (hA : Bd A w) (hok : Ok c) :
    Calls Tryz.prog 134 #[v, .int .i64 x] w (Ret fun v' w' => RC A w' v' (stepC c x) ∧ Chg No w w') := by
  obtain ⟨c', hc'⟩ : ∃ c', stepC c x = c' := ⟨_, rfl⟩
  rw [hc']
  have hv0 := hv
  obtain ⟨pv, mv, rfl, hp, hmk⟩ := hv
  obtain ⟨pa, pn, pc, rfl⟩ := hp.shape
  obtain ⟨ma, mn, mc, rfl⟩ := hmk.shape
  have hB := fun o1 o2 => ((hA.alloc o1).alloc o2).and1 (b := w.heap.size + 1) (by simp)
  rcases atI_spec c.pages x with ⟨hh, i, hi, he⟩ | ⟨hh, he⟩
  · have hs : hitC c i = c' := by rw [← hc']; unfold stepC; rw [if_pos hh, he]; rfl
    have HS := Lib.hid hs
    have HE := Lib.hid he
    clear hs he hh hc'
    have hcall : ∀ A' W v, RC A' W v c → Bd A' W → Calls Tryz.prog 155 #[v, .int .i64 i] W (Ret fun v' w' => RC A' w' v' c' ∧ Chg No W w') := by
      intro A' W v h1 h2
      have := l4Hit_any A' v c i W h1 h2 hok hi
      rw [HS.out] at this; exact this
    have HC := Lib.hid hcall
    clear hcall
    have hat : ∀ A' W v, RI A' W v c.pages → Calls Tryz.prog 154 #[v, .int .i64 x] W fun e w' => e = .returned (.int .i64 i) ∧ W = w' := by
      intro A' W v h1
      have := l4At_any A' v c.pages x W h1
      rw [HE.out] at this; exact this
    have HAT := Lib.hid hat
    clear hat
    go_enter Tryz.func134, Tryz.ntmps134
    go_wp2_with fail
    refine (HAT.out A _ _ (hp.keep (((Chg.refl No w).alloc _).alloc _))).mono ?_
    rintro e w1 ⟨rfl, rfl⟩
    go_wp2_with fail
    refine (HC.out (And1 A (w.heap.size + 1)) _ _ (hv0.and1 (((Chg.refl No w).alloc _).alloc _) (by omega)) (hB _ _)).mono ?_
    rintro e w1 ⟨v1, rfl, ⟨pv', mv', rfl, h1, h2⟩, h3⟩
    obtain ⟨pa', pn', pc', rfl⟩ := h1.shape
    obtain ⟨ma', mn', mc', rfl⟩ := h2.shape
    have k1 := ((((Chg.refl No w).alloc _).alloc _).keep h3)
    obtain ⟨r0, r1, r2, r3, r4, rf⟩ := ((Box.new (w.alloc _) _ _ _ _ _ _).at (n := w.heap.size + 1) (by simp)).keep h3
    have rf0 := rf 0
    have rf1 := rf 1
    have rf2 := rf 2
    have rf3 := rf 3
    have rf4 := rf 4
    go_wp2
    refine bodyPost_ret (v := .agg #[.int .i64 c'.pol, .int .i64 c'.size, .slice pa' pn' pc', .slice ma' mn' mc', .int .i64 c'.hand]) (by simp [results, Tryz.results134, go_sem, r0, r1, r2, r3, r4]) rfl ?_
    exact ⟨_, rfl, ⟨_, _, rfl, h1.put5 _ _ _ _ _, h2.put5 _ _ _ _ _⟩, k1.put5 (fun h => by omega) _ _ _ _ _⟩
  · have hs : faultC c x = c' := by rw [← hc']; unfold stepC; rw [hh]; rfl
    have HS := Lib.hid hs
    have HE := Lib.hid he
    clear hs he hh hc'
    have hcall : ∀ A' W v, RC A' W v c → Bd A' W → Calls Tryz.prog 156 #[v, .int .i64 x] W (Ret fun v' w' => RC A' w' v' c' ∧ Chg No W w') := by
      intro A' W v h1 h2
      have := l4Fault_any A' v c x W h1 h2 hok
      rw [HS.out] at this; exact this
    have HC := Lib.hid hcall
    clear hcall
    have hat : ∀ A' W v, RI A' W v c.pages → Calls Tryz.prog 154 #[v, .int .i64 x] W fun e w' => e = .returned (.int .i64 (-1)) ∧ W = w' := by
      intro A' W v h1
      have := l4At_any A' v c.pages x W h1
      rw [HE.out] at this; exact this
    have HAT := Lib.hid hat
    clear hat
    go_enter Tryz.func134, Tryz.ntmps134
    go_wp2_with fail
    refine (HAT.out A _ _ (hp.keep (((Chg.refl No w).alloc _).alloc _))).mono ?_
    rintro e w1 ⟨rfl, rfl⟩
    go_wp2_with fail
    refine (HC.out (And1 A (w.heap.size + 1)) _ _ (hv0.and1 (((Chg.refl No w).alloc _).alloc _) (by omega)) (hB _ _)).mono ?_
    rintro e w1 ⟨v1, rfl, ⟨pv', mv', rfl, h1, h2⟩, h3⟩
    obtain ⟨pa', pn', pc', rfl⟩ := h1.shape
    obtain ⟨ma', mn', mc', rfl⟩ := h2.shape
    have k1 := ((((Chg.refl No w).alloc _).alloc _).keep h3)
    obtain ⟨r0, r1, r2, r3, r4, rf⟩ := ((Box.new (w.alloc _) _ _ _ _ _ _).at (n := w.heap.size + 1) (by simp)).keep h3
    have rf0 := rf 0
    have rf1 := rf 1
    have rf2 := rf 2
    have rf3 := rf 3
    have rf4 := rf 4
    go_wp2
    refine bodyPost_ret (v := .agg #[.int .i64 c'.pol, .int .i64 c'.size, .slice pa' pn' pc', .slice ma' mn' mc', .int .i64 c'.hand]) (by simp [results, Tryz.results134, go_sem, r0, r1, r2, r3, r4]) rfl ?_
    exact ⟨_, rfl, ⟨_, _, rfl, h1.put5 _ _ _ _ _, h2.put5 _ _ _ _ _⟩, k1.put5 (fun h => by omega) _ _ _ _ _⟩
end Go.Proofs.YtodnkkmjjlfoiaaGreat

namespace Go.Proofs.YtodnkkmjjlfoiaaGreat
open Go.RowKit

theorem quiet_sym {P : Program} {f : FuncId} {args : Array Value} {w : World} {n : Nat} {v : Value}
    (h : Calls P f args (w.drewN n) fun e w' => e = .returned v ∧ w.drewN n = w') : Calls P f args (w.drewN n) fun e w'' => e = .returned v ∧ ∃ m, w'' = w.drewN m :=
  Calls.quiet_of_same (h.mono fun _ _ h => ⟨h.1, h.2.symm⟩)

set_option maxHeartbeats 400000 in
theorem l4New_any (p k : Int) (w : World) :
    Calls Tryz.prog 129 #[.int .i64 p, .int .i64 k] w (Ret fun v' w' => (∀ A, Bd A w → RC A w' v' (newC p k)) ∧ Chg No w w') := by
  go_enter Tryz.func129, Tryz.ntmps129
  go_wp2
  refine bodyPost_ret (v := .agg #[.int .i64 p, .int .i64 k, .slice (some ⟨w.heap.size + 1, 0, none⟩) 0 0, .slice (some ⟨w.heap.size + 1 + 1, 0, none⟩) 0 0, .int .i64 0]) (by simp [results, Tryz.results129, go_sem]) rfl ?_
  exact ⟨_, rfl, fun A _ => ⟨_, _, rfl, RI.empty A _ _ 0 (by omega) (by simp), RI.empty A _ _ 0 (by omega) (by simp)⟩, (((Chg.refl No w).alloc _).alloc _).alloc _⟩

set_option maxRecDepth 100000 in
set_option maxHeartbeats 1000000 in
theorem l4Places_any (A : Nat → Prop) (v rv : Value) (c : Ca) (l : List Int) (w : World) (hv : RC A w v c) (hr : RI A w rv l) (_hA : Bd A w) (hok : Ok c) :
    Calls Tryz.prog 132 #[v, rv] w (Ret fun v' w' => OI w.heap.size w' v' (places c l) ∧ Chg No w w') := by
  obtain ⟨pv, mv, rfl, hp, hmk⟩ := hv
  obtain ⟨pa, pn, pc, rfl⟩ := hp.shape
  obtain ⟨ma, mn, mc, rfl⟩ := hmk.shape
  obtain ⟨a, cap, rfl, hcap, hmax, hlen, _, hc⟩ := id hr
  go_enter Tryz.func132, Tryz.ntmps132
  go_wp2
  go_loopw [5, 6] (fun o i wr => ∃ (k : Nat) (pv mv : Value) (B : Nat → Prop), k ≤ l.length ∧ i = .int .i64 k ∧ OI (w.heap.size + 1) wr o (placesTo c l k) ∧ (∀ q, own o q → B q) ∧ B w.heap.size ∧ Bd B wr ∧
      Box wr w.heap.size (.int .i64 (runC c (l.take k)).pol) (.int .i64 (runC c (l.take k)).size) pv mv (.int .i64 (runC c (l.take k)).hand) ∧
      RI B wr pv (runC c (l.take k)).pages ∧ RI B wr mv (runC c (l.take k)).marks ∧ Chg No w wr) (fun _ i _ => l.length - (intOf i).toNat)
  case atStart =>
    refine ⟨0, .slice pa pn pc, .slice ma mn mc, fun q => q = w.heap.size ∨ q = w.heap.size + 1, Nat.zero_le _, rfl, OI.zeroAt (World.size_alloc ..) (Nat.le_refl _), fun q hq => .inr (own_slice.1 hq), .inl rfl, fun q hq => ?_, ?_, ?_, ?_, ((Chg.refl No w).alloc _).alloc _⟩
    · rw [World.size_alloc, World.size_alloc]
      rcases hq with h | h <;> omega
    · exact (Box.new w _ _ _ _ _ _).keep ((Chg.refl No _).alloc _)
    · exact hp.to (((Chg.refl No w).alloc _).alloc _) (fun _ e => e.elim) (fun q hq => .inr (by omega))
    · exact hmk.to (((Chg.refl No w).alloc _).alloc _) (fun _ e => e.elim) (fun q hq => .inr (by omega))
  case round =>
    obtain ⟨k, pv, mv, B, hk, rfl, ho, hoB, hNB, hB, hbox, hp', hm', hch⟩ := hrel
    obtain ⟨pa', pn', pc', rfl⟩ := hp'.shape
    obtain ⟨ma', mn', mc', rfl⟩ := hm'.shape
    obtain ⟨ck, hck⟩ : ∃ ck, runC c (l.take k) = ck := ⟨_, rfl⟩
    have hokk : Ok ck := hck ▸ ok_run hok _
    rw [hck] at hbox hp' hm'
    by_cases hlt : k < l.length
    · obtain ⟨b, off, rfl, _, hb, hcell⟩ := hc (by intro e; simp [e] at hlt)
      have hrun := runC_snoc c l k hlt
      rw [hck] at hrun
      obtain ⟨y, hy⟩ : ∃ y, l[k] = y := ⟨_, rfl⟩
      have hcl := (hch.cellD b (off + k) hb (fun e => e)).trans (hcell k hlt)
      have hgy : l.getD k 0 = y := by rw [← hy, List.getD_eq_getElem?_getD, List.getElem?_eq_getElem hlt]; rfl
      rw [hgy] at hcl
      rw [hy] at hrun
      have hpl : placesTo c l (k + 1) = if hasB ck.pages y then placesTo c l k else placesTo c l k ++ [(k : Int)] := by
        show (if hasB (runC c (l.take k)).pages (l.getD k 0) then _ else _) = _
        rw [hck, hgy]
      have HR := Lib.hid hrun
      have HP := Lib.hid hpl
      clear hcell hc hrun hpl hck hgy hy
      have hk0 : (0 : Int) ≤ (k : Int) := Int.natCast_nonneg _
      have hk1 : (k : Int) < (l.length : Int) := by omega
      have c2 := hbox.c2
      by_cases hh : hasB ck.pages y = true
      · have HPL : Hid (placesTo c l (k + 1) = placesTo c l k) := Lib.hid (by rw [HP.out, if_pos hh])
        go_wp2_with fail
        go_quiet ((go_at_call 120; exact quiet_sym (l1Has_any B _ _ _ _ (by exact hp'.keep ((Chg.refl No wr).drewN _)))))
        have hd := (Chg.refl No wr).drewN nq
        have hbox1 := hbox.keep hd
        have hp1 := hp'.keep hd
        have hm1 := hm'.keep hd
        have ho1 := ho.keep hd
        rw [← HPL.out] at ho1
        have hB1 := hB.keep hd
        have hch1 := hch.keep hd
        have hcl1 := (hd.cellD b (off + k) (Nat.lt_of_lt_of_le hb hch.size) (fun e => e)).trans hcl
        obtain ⟨B1, hBB⟩ : ∃ B1, B = B1 := ⟨_, rfl⟩
        have hoB1 := hoB
        have hNB1 := hNB
        rw [hBB] at hp1 hm1 hB1 hoB1 hNB1
        clear hbox hp' hm' ho hch hB hcl c2 hBB hoB hNB
        go_wp2_with fail
        generalize wr.drewN nq = W1 at *
        · skip
          have c0 := hbox1.c0
          have c1 := hbox1.c1
          have c2 := hbox1.c2
          have c3 := hbox1.c3
          have c4 := hbox1.c4
          have hfr := hbox1.fr
          go_wp2_with fail
          go_still_tail 5, (by kernel_rfl)
          have hd1 : Chg No W1 W1.drew := (Chg.refl No W1).drew
          change wpList _ _ _ _ _ W1.drew
          have hbox1 := hbox1.keep hd1
          have hp1 := hp1.keep hd1
          have hm1 := hm1.keep hd1
          have ho1 := ho1.keep hd1
          have hch1 := hch1.keep hd1
          have hB1 := hB1.keep hd1
          clear c0 c1 c2 c3 c4 hfr hcl1
          generalize W1.drew = W2 at hbox1 hp1 hm1 ho1 hch1 hB1 ⊢
          clear hd1
          go_wp2_with fail
          refine (l4Step_any B1 _ ck y W2 ⟨_, _, rfl, hp1, hm1⟩ hB1 hokk).mono ?_
          rintro e w3 ⟨v3, rfl, ⟨pv3, mv3, rfl, hp3, hm3⟩, hk3⟩
          rw [← HR.out] at hp3 hm3
          obtain ⟨pa3, pn3, pc3, rfl⟩ := hp3.shape
          obtain ⟨ma3, mn3, mc3, rfl⟩ := hm3.shape
          have hbox3 := hbox1.keep hk3
          obtain ⟨c0, c1, c2, c3, c4, hfr⟩ := id hbox3
          have hfr0 := hfr 0
          have hfr1 := hfr 1
          have hfr2 := hfr 2
          have hfr3 := hfr 3
          have hfr4 := hfr 4
          go_wp2
          go_roundw
          case measure => simp [intOf]; omega
          case rel =>
            refine ⟨k + 1, .slice pa3 pn3 pc3, .slice ma3 mn3 mc3, B1, by omega, by go_num, (ho1.keep hk3).put5 (fun q hq e => by have := (ho1.lt q hq).1; omega) _ _ _ _ _, hoB1, hNB1, ?_, ?_, ?_, ?_, (hch1.keep hk3).put5 (fun h => by omega) _ _ _ _ _⟩
            · exact (hB1.keep hk3).keep ((Chg.refl (fun q => q = w.heap.size) _).put5 (fun _ => rfl) _ _ _ _ _)
            · have := hbox3.put5 (.int .i64 (stepC ck y).pol) (.int .i64 (stepC ck y).size) (.slice pa3 pn3 pc3) (.slice ma3 mn3 mc3) (.int .i64 (stepC ck y).hand)
              rw [HR.out]
              exact this
            · exact hp3.step ((Chg.refl (fun q => q = w.heap.size) _).put5 (fun _ => rfl) _ _ _ _ _) (fun q hq => hq ▸ hNB1)
            · exact hm3.step ((Chg.refl (fun q => q = w.heap.size) _).put5 (fun _ => rfl) _ _ _ _ _) (fun q hq => hq ▸ hNB1)
      · replace hh : hasB ck.pages y = false := by simpa using hh
        have HPL : Hid (placesTo c l (k + 1) = placesTo c l k ++ [(k : Int)]) := Lib.hid (by rw [HP.out, if_neg (by simp [hh])])
        go_wp2_with fail
        go_quiet ((go_at_call 120; exact quiet_sym (l1Has_any B _ _ _ _ (by exact hp'.keep ((Chg.refl No wr).drewN _)))))
        have hd := (Chg.refl No wr).drewN nq
        go_wp2_with (at_builtin; refine wapp1 rfl (.tmp 22) (.tmp 24) rfl (ho.keep hd) rfl rfl (by have := placesTo_le c l k; omega) (by have := hbox.lt; show w.heap.size + 1 ≤ wr.heap.size; omega) ?_)
        intro o1 W1 ho1 hch' hnew
        rw [← HPL.out] at ho1
        have hT := hoB
        have hchw := hd
        have hNo := ho.notOwn (Nat.lt_succ_self w.heap.size)
        have hbox1 := (hbox.keep hd).step hch' hNo
        obtain ⟨B1, hB1e⟩ : ∃ B1, B1 = Or2 B (own o1) := ⟨_, rfl⟩
        have hp1 := (hp'.keep hd).app hch' hT hnew
        have hm1 := (hm'.keep hd).app hch' hT hnew
        have hB1 : Bd (Or2 B (own o1)) W1 := ((hB.keep hd).keep hch').or (fun q hq => (ho1.lt q hq).2)
        have hch1 := (hch.keep hd).own hch' ho (by omega)
        have hcl1 := (hch'.cellD b (off + k) (Nat.lt_of_lt_of_le hb hch.size) (fun hq => by have := (ho.lt _ hq).1; omega)).trans hcl
        have hoB1 : ∀ q, own o1 q → Or2 B (own o1) q := fun q hq => .inr hq
        have hNB1 : Or2 B (own o1) w.heap.size := .inl hNB
        rw [← hB1e] at hp1 hm1 hB1 hoB1 hNB1
        clear hbox hp' hm' ho hch hB hcl c2 hB1e hoB hNB hchw hNo hT hch' hd
        · skip
          have c0 := hbox1.c0
          have c1 := hbox1.c1
          have c2 := hbox1.c2
          have c3 := hbox1.c3
          have c4 := hbox1.c4
          have hfr := hbox1.fr
          go_wp2_with fail
          go_still_tail 5, (by kernel_rfl)
          have hd1 : Chg No W1 W1.drew := (Chg.refl No W1).drew
          change wpList _ _ _ _ _ W1.drew
          have hbox1 := hbox1.keep hd1
          have hp1 := hp1.keep hd1
          have hm1 := hm1.keep hd1
          have ho1 := ho1.keep hd1
          have hch1 := hch1.keep hd1
          have hB1 := hB1.keep hd1
          clear c0 c1 c2 c3 c4 hfr hcl1
          generalize W1.drew = W2 at hbox1 hp1 hm1 ho1 hch1 hB1 ⊢
          clear hd1
          go_wp2_with fail
          refine (l4Step_any B1 _ ck y W2 ⟨_, _, rfl, hp1, hm1⟩ hB1 hokk).mono ?_
          rintro e w3 ⟨v3, rfl, ⟨pv3, mv3, rfl, hp3, hm3⟩, hk3⟩
          rw [← HR.out] at hp3 hm3
          obtain ⟨pa3, pn3, pc3, rfl⟩ := hp3.shape
          obtain ⟨ma3, mn3, mc3, rfl⟩ := hm3.shape
          have hbox3 := hbox1.keep hk3
          obtain ⟨c0, c1, c2, c3, c4, hfr⟩ := id hbox3
          have hfr0 := hfr 0
          have hfr1 := hfr 1
          have hfr2 := hfr 2
          have hfr3 := hfr 3
          have hfr4 := hfr 4
          go_wp2
          go_roundw
          case measure => simp [intOf]; omega
          case rel =>
            refine ⟨k + 1, .slice pa3 pn3 pc3, .slice ma3 mn3 mc3, B1, by omega, by go_num, (ho1.keep hk3).put5 (fun q hq e => by have := (ho1.lt q hq).1; omega) _ _ _ _ _, hoB1, hNB1, ?_, ?_, ?_, ?_, (hch1.keep hk3).put5 (fun h => by omega) _ _ _ _ _⟩
            · exact (hB1.keep hk3).keep ((Chg.refl (fun q => q = w.heap.size) _).put5 (fun _ => rfl) _ _ _ _ _)
            · have := hbox3.put5 (.int .i64 (stepC ck y).pol) (.int .i64 (stepC ck y).size) (.slice pa3 pn3 pc3) (.slice ma3 mn3 mc3) (.int .i64 (stepC ck y).hand)
              rw [HR.out]
              exact this
            · exact hp3.step ((Chg.refl (fun q => q = w.heap.size) _).put5 (fun _ => rfl) _ _ _ _ _) (fun q hq => hq ▸ hNB1)
            · exact hm3.step ((Chg.refl (fun q => q = w.heap.size) _).put5 (fun _ => rfl) _ _ _ _ _) (fun q hq => hq ▸ hNB1)
    · have hkl : k = l.length := by omega
      go_wp2
      go_ret
      subst hkl
      exact ⟨_, rfl, ho.weak (by omega), hch⟩
end Go.Proofs.YtodnkkmjjlfoiaaGreat

/- FaultPlaces, both sides -/
namespace Go.Proofs.YtodnkkmjjlfoiaaGreat
open Go.RowKit

def JF (base bo : Nat) (c : Ca) (l : List Int) (j : Nat) (U : Nat → Prop) (w : World) : Prop :=
  ∃ ov, w.cell? ⟨bo, 0, none⟩ = some ov ∧ w.frozen? ⟨bo, 0, none⟩ = false ∧ OI base w ov (placesTo c l j) ∧ (∀ q, U q ↔ q = bo ∨ own ov q) ∧ ¬ own ov bo ∧ base ≤ bo

set_option maxRecDepth 100000 in
set_option maxHeartbeats 1000000 in
theorem faultPlaces1_any (base bo : Nat) (c : Ca) (l : List Int) (j : Nat) (U : Nat → Prop) (w : World) (xb xa : Value) (hj : j < l.length) (hll : l.length ≤ 17592186044416) (h : JF base bo c l j U w) (hb : base ≤ w.heap.size) (sb : ∃ a n q, xb = .slice a n q) (sa : ∃ a n q, xa = .slice a n q) :
    Calls Tryz.prog 122 #[.int .i64 (j : Int), xb, xa, .bool (!hasB (runC c (l.take j)).pages (l.getD j 0)), .pointer (some ⟨bo, 0, none⟩)] w
      (Ret fun v' w' => v' = .tuple #[] ∧ ∃ U', JF base bo c l (j + 1) U' w' ∧ Chg U w w' ∧ ∀ q, U' q → U q ∨ w.heap.size ≤ q) := by
  obtain ⟨ov, hc, hf, ho, hU, hno, hbo⟩ := h
  obtain ⟨_, _, _, rfl⟩ := sb
  obtain ⟨_, _, _, rfl⟩ := sa
  obtain ⟨a, n, q, rfl⟩ := ho.shape
  have hbl := World.block_lt_of_cell? w _ hc
  simp only at hbl
  have hpl : placesTo c l (j + 1) = if hasB (runC c (l.take j)).pages (l.getD j 0) then placesTo c l j else placesTo c l j ++ [(j : Int)] := rfl
  cases hh : hasB (runC c (l.take j)).pages (l.getD j 0)
  · have HP : Hid (placesTo c l (j + 1) = placesTo c l j ++ [(j : Int)]) := Lib.hid (by rw [hpl, hh]; rfl)
    have hle := placesTo_le c l j
    clear hpl hh
    go_enter Tryz.func122, Tryz.ntmps122
    go_wp2_with (at_builtin; refine wapp1 rfl (.tmp 10) (.tmp 12) rfl ho rfl rfl (by omega) hb ?_)
    intro v1 w1 h1 k1 f1
    obtain ⟨a1, n1, q1, rfl⟩ := h1.shape
    have g1 := (k1.cellD bo 0 hbl hno).trans hc
    have g2 := (k1.frozenD bo 0 hbl hno).trans hf
    have hz := k1.size
    have hno1 : ¬ own (.slice a1 n1 q1) bo := fun hq => by
      rcases f1 bo hq with h2 | h2
      · exact hno h2
      · omega
    go_wp2_with fail
    go_end0
    refine ⟨_, rfl, rfl, fun q => q = bo ∨ own (.slice a1 n1 q1) q, ⟨_, World.cell?_setCell_same _ _ _ g1, (World.frozen?_setCell _ _ _ _).trans g2, ?_, fun q => Iff.rfl, hno1, hbo⟩, (k1.mono (fun q hq _ => (hU q).2 (.inr hq))).setCell (fun _ => (hU bo).2 (.inl rfl)) _, fun q hq => ?_⟩
    · rw [HP.out]; exact h1.set bo 0 _ hno1
    · rcases hq with rfl | hq
      · exact .inl ((hU _).2 (.inl rfl))
      · rcases f1 q hq with h2 | h2
        · exact .inl ((hU _).2 (.inr h2))
        · exact .inr h2
  · have HP : Hid (placesTo c l (j + 1) = placesTo c l j) := Lib.hid (by rw [hpl, hh]; rfl)
    clear hpl hh
    go_enter Tryz.func122, Tryz.ntmps122
    go_wp2_with fail
    go_end0
    exact ⟨_, rfl, rfl, U, ⟨_, hc, hf, by rw [HP.out]; exact ho, hU, hno, hbo⟩, Chg.refl _ w, fun q hq => .inl hq⟩

theorem JF.keep {base bo : Nat} {c : Ca} {l : List Int} {j : Nat} {U : Nat → Prop} {w w' : World} {S : Nat → Prop} (h : JF base bo c l j U w) (hc : Chg S w w') (hs : ∀ q, U q → ¬ S q) : JF base bo c l j U w' := by
  obtain ⟨ov, h1, h2, h3, h4, h5, h6⟩ := h
  have hbl := World.block_lt_of_cell? w _ h1
  have hsb := hs bo ((h4 bo).2 (.inl rfl))
  exact ⟨ov, (hc.cellD bo 0 hbl hsb).trans h1, (hc.frozenD bo 0 hbl hsb).trans h2, h3.step hc (fun q hq => hs q ((h4 q).2 (.inr hq))), h4, h5, h6⟩
theorem JF.lt {base bo : Nat} {c : Ca} {l : List Int} {j : Nat} {U : Nat → Prop} {w : World} (h : JF base bo c l j U w) (q : Nat) (hq : U q) : q < w.heap.size := by
  obtain ⟨ov, h1, h2, h3, h4, h5, h6⟩ := h
  rcases (h4 q).1 hq with rfl | hq
  · exact World.block_lt_of_cell? w _ h1
  · exact (h3.lt q hq).2
theorem JF.each (base bo : Nat) (c : Ca) (l : List Int) (hll : l.length ≤ 17592186044416) : Each 122 (.pointer (some ⟨bo, 0, none⟩)) c l (JF base bo c l) :=
  ⟨fun _ _ _ h => h.lt, fun _ _ _ _ _ h hc hs => h.keep hc hs, fun j U w xb xa hj h hb ha => by
    refine faultPlaces1_any base bo c l j U w xb xa hj hll h ?_ hb.shape ha.shape
    obtain ⟨ov, h1, _, _, _, _, h6⟩ := h
    exact Nat.le_trans h6 (Nat.le_of_lt (World.block_lt_of_cell? w _ h1))⟩
theorem cfPlaces (x0 x1 x2 x3 cv : Value) (w : World) : (callFunc 122 #[x0, x1, x2, x3, cv]).run Tryz.prog w = .ok (.enter 122 #[x0, x1, x2, x3, cv]) w := by kernel_rfl

set_option maxRecDepth 100000 in
set_option maxHeartbeats 1000000 in
theorem faultPlaces_any (A : Nat → Prop) (p k : Int) (v : Value) (l : List Int) (w : World) (hv : RI A w v l) (hok : Ok (newC p k)) :
    Calls Tryz.prog 73 #[.int .i64 p, .int .i64 k, v] w (Ret fun v' w' => OI w.heap.size w' v' (places (newC p k) l) ∧ Chg No w w') := by
  have hll := hv.len
  have hvk := fun w' (h : Chg No w w') => hv.to (B := fun q => w.heap.size ≤ q) h (fun _ e => e.elim) (fun q hq => .inr hq)
  obtain ⟨a, n, q, rfl⟩ := hv.shape
  go_enter Tryz.func73, Tryz.ntmps73
  go_wp2_with fail
  have hsz : w.heap.size + 1 = (w.alloc (.cells #[] 3)).heap.size := (World.size_alloc ..).symm
  have hJ0 : JF w.heap.size (w.heap.size + 1) (newC p k) l 0 (fun q => q = w.heap.size + 1 ∨ own (.slice (some ⟨w.heap.size, 0, none⟩) 0 0) q) ((w.alloc (.cells #[] 3)).alloc (.cells #[.slice (some ⟨w.heap.size, 0, none⟩) 0 0] 23)) := by
    refine ⟨.slice (some ⟨w.heap.size, 0, none⟩) 0 0, ?_, ?_, (OI.zeroAt rfl (Nat.le_refl _)).alloc _, fun q => Iff.rfl, fun hq => ?_, by omega⟩
    · rw [hsz, World.cell?_alloc_new]; rfl
    · rw [hsz]; exact World.frozen?_alloc_new _ _ _ _
    · have := own_slice.1 hq; omega
  refine (run_any 122 (.pointer (some ⟨w.heap.size + 1, 0, none⟩)) p k _ l _ _ _ (JF.each w.heap.size (w.heap.size + 1) (newC p k) l hll) hJ0 (fun x0 x1 x2 x3 w => cfPlaces x0 x1 x2 x3 _ w) ((hvk _ (((Chg.refl No w).alloc _).alloc _)).weak (fun q hq _ => ?_)) hok).mono ?_
  · rcases hq with rfl | hq
    · exact Nat.le_succ _
    · have := own_slice.1 hq; omega
  rintro e w1 ⟨v1, rfl, rfl, U1, ⟨ov, h1, h2, h3, h4, h5, h6⟩, hch, hU1⟩
  obtain ⟨a1, n1, q1, rfl⟩ := h3.shape
  have hch' : Chg No w w1 := (((Chg.refl No w).alloc _).alloc _).step hch (fun q hq hl => by
    rcases hq with rfl | hq
    · omega
    · have := own_slice.1 hq; omega)
  clear hJ0 hsz hch hvk
  go_wp2
  go_ret
  exact ⟨_, rfl, h3, hch'⟩

def askedB (n p k : Int) (l : List Int) : Bool := inB p 1 7 && inB k 1 6 && (inB n 1 8 && decide (l.length ≤ 60) && belowB n l)
theorem askedB_ok {n p k : Int} {l : List Int} (h : askedB n p k l = true) : Ok (newC p k) := by
  simp only [askedB, Bool.and_eq_true, inB_iff] at h
  exact ok_new h.1.1 h.1.2

set_option maxRecDepth 100000 in
set_option maxHeartbeats 1000000 in
theorem implFaultPlaces_any (A : Nat → Prop) (n p k : Int) (v : Value) (l : List Int) (w : World) (hv : RI A w v l) :
    Calls Tryz.prog 34 #[.int .i64 n, .int .i64 p, .int .i64 k, v] w (Ret2 fun v0 v1 w' => v1 = .bool (askedB n p k l) ∧ OI w.heap.size w' v0 (if askedB n p k l then places (newC p k) l else []) ∧ Chg No w w') := by
  cases hh : askedB n p k l
  · have HH := Lib.hid hh
    clear hh
    go_enter Tryz.func34, Tryz.ntmps34
    go_wp2_with fail
    refine (isRun_any A v l n p k w hv).mono ?_
    rintro e w1 ⟨v1, rfl, rfl, k1⟩
    rw [show (inB p 1 7 && inB k 1 6 && (inB n 1 8 && decide (l.length ≤ 60) && belowB n l)) = false from HH.out]
    go_wp2
    go_ret2
    exact ⟨_, _, rfl, rfl, OI.nil _ _, k1⟩
  · have HH := Lib.hid hh
    clear hh
    go_enter Tryz.func34, Tryz.ntmps34
    go_wp2_with fail
    refine (isRun_any A v l n p k w hv).mono ?_
    rintro e w1 ⟨v1, rfl, rfl, k1⟩
    rw [show (inB p 1 7 && inB k 1 6 && (inB n 1 8 && decide (l.length ≤ 60) && belowB n l)) = true from HH.out]
    go_wp2_with fail
    refine (faultPlaces_any A p k v l w1 (hv.keep k1) (askedB_ok HH.out)).mono ?_
    rintro e w2 ⟨v2, rfl, o2, k2⟩
    go_wp2
    go_ret2
    exact ⟨_, _, rfl, rfl, o2.weak k1.size, k1.keep k2⟩
end Go.Proofs.YtodnkkmjjlfoiaaGreat

/-
  Plain Lean: numbers put in order, each once; what a valid cache is. No program in sight.
-/
namespace Go.Proofs.YtodnkkmjjlfoiaaGreat

/-- puts a number to its place, once -/
def putL : List Int → Int → List Int
  | [], n => [n]
  | a :: l, n => if a < n then a :: putL l n else if a = n then a :: l else n :: a :: l
def diffL (l : List Int) : List Int := l.foldl putL []
def Up (l : List Int) : Prop := l.Pairwise (· < ·)
theorem putL_mem {l : List Int} {n x : Int} : x ∈ putL l n ↔ x ∈ l ∨ x = n := by
  induction l with
  | nil => simp [putL]
  | cons a l ih =>
    unfold putL
    split
    · simp [ih, or_assoc]
    · split
      · rename_i h; subst h; simp; intro e; exact .inl e
      · simp; constructor
        · rintro (h | h | h) <;> simp [h]
        · rintro ((h | h) | h) <;> simp [h]
theorem putL_up {l : List Int} (n : Int) (h : Up l) : Up (putL l n) := by
  induction l with
  | nil => simp [putL, Up]
  | cons a l ih =>
    unfold Up at h ih ⊢
    rw [List.pairwise_cons] at h
    unfold putL
    split
    · rename_i hlt
      rw [List.pairwise_cons]
      refine ⟨fun x hx => ?_, ih h.2⟩
      rcases putL_mem.1 hx with hx | hx
      · exact h.1 x hx
      · omega
    · split
      · rw [List.pairwise_cons]; exact h
      · rw [List.pairwise_cons, List.pairwise_cons]
        refine ⟨fun x hx => ?_, h⟩
        rcases List.mem_cons.1 hx with hx | hx
        · omega
        · have := h.1 x hx; omega
theorem foldl_put_mem (l : List Int) : ∀ (acc : List Int) (x : Int), x ∈ l.foldl putL acc ↔ x ∈ acc ∨ x ∈ l := by
  induction l with
  | nil => simp
  | cons a l ih =>
    intro acc x
    rw [List.foldl_cons, ih, putL_mem, List.mem_cons, or_assoc]
theorem foldl_put_up (l : List Int) : ∀ (acc : List Int), Up acc → Up (l.foldl putL acc) := by
  induction l with
  | nil => intro acc h; exact h
  | cons a l ih => intro acc h; exact ih _ (putL_up a h)
theorem diffL_mem {l : List Int} {x : Int} : x ∈ diffL l ↔ x ∈ l := by simp [diffL, foldl_put_mem]
theorem diffL_up (l : List Int) : Up (diffL l) := foldl_put_up l [] List.Pairwise.nil
theorem up_ext : ∀ {a b : List Int}, Up a → Up b → (∀ x, x ∈ a ↔ x ∈ b) → a = b
  | [], [], _, _, _ => rfl
  | [], y :: b, _, _, h => absurd ((h y).2 (by simp)) (by simp)
  | x :: a, [], _, _, h => absurd ((h x).1 (by simp)) (by simp)
  | x :: a, y :: b, ha, hb, h => by
    unfold Up at ha hb
    rw [List.pairwise_cons] at ha hb
    have hxy : x = y := by
      rcases List.mem_cons.1 ((h x).1 (by simp)) with e | e
      · exact e
      · rcases List.mem_cons.1 ((h y).2 (by simp)) with e' | e'
        · exact e'.symm
        · have := ha.1 y e'; have := hb.1 x e; omega
    subst hxy
    refine congrArg _ (up_ext ha.2 hb.2 (fun z => ⟨fun hz => ?_, fun hz => ?_⟩))
    · rcases List.mem_cons.1 ((h z).1 (by simp [hz])) with e | e
      · subst e; have := ha.1 z hz; omega
      · exact e
    · rcases List.mem_cons.1 ((h z).2 (by simp [hz])) with e | e
      · subst e; have := hb.1 z hz; omega
      · exact e
theorem up_diff {l m : List Int} (hu : Up m) (h : ∀ x, x ∈ m ↔ x ∈ l) : m = diffL l := up_ext hu (diffL_up l) (fun x => (h x).trans diffL_mem.symm)
end Go.Proofs.YtodnkkmjjlfoiaaGreat
