import Derived.Test.YtmnohickmidfkaaDoorYp
/- AppendRecord: both sides and the law -/
namespace Go.Proofs.YtmnohickmidfkaaDoor
open Go.RowKit

/-- what AppendRecord returns -/
def appOk (d p : List UInt8) (n : Int) (c r : List UInt8) : Bool := validB d p n && recB c r
def appS (d p : List UInt8) (n : Int) (c r : List UInt8) : Int := if appOk d p n c r then (if n = 60 then 2 else 0) else 1
def appP (d p : List UInt8) (n : Int) (c r : List UInt8) : List UInt8 := if appS d p n c r = 0 then p ++ (lineL n.toNat c r ++ [10]) else p
def appN (d p : List UInt8) (n : Int) (c r : List UInt8) : Int := if appS d p n c r = 0 then n + 1 else n
theorem app_stop {d p : List UInt8} {n : Int} {c r : List UInt8} {s : Int} (h : appS d p n c r = s) (hs : ¬ s = 0) : appP d p n c r = p ∧ appN d p n c r = n := by
  unfold appP appN
  rw [h, if_neg hs, if_neg hs]
  exact ⟨rfl, rfl⟩
theorem valid_parts {d p : List UInt8} {n : Int} (hv : validB d p n = true) : d.length + p.length ≤ 30000 ∧ 0 ≤ n ∧ n ≤ 60 := by
  unfold validB at hv
  simp only [Bool.and_eq_true, decide_eq_true_eq] at hv
  have := openB_len 60 0 (d ++ p)
  omega
set_option maxRecDepth 100000 in
set_option maxHeartbeats 2000000 in
theorem specAppend_any (d p : List UInt8) (n : Int) (c r : List UInt8) (w : World) (hd : d.length ≤ 1048576) (hp : p.length ≤ 1048576) (hc : c.length ≤ 1048576) (hr : r.length ≤ 1048576) :
    Calls Tryd.prog 23 #[lv d p n, rv c r] w fun e w' => e = .returned (.tuple #[lv d (appP d p n c r) (appN d p n c r), .int .i64 (appS d p n c r)]) ∧ Chg No w w' := by
  have q1 := Lib.hid (fun W => l12Valid_any d p n W hd hp)
  have q2 := Lib.hid (fun W => l12Record_any c r W (by omega) (by omega))
  unfold lv at q1 ⊢
  unfold rv at q2 ⊢
  obtain ⟨A0, hA0⟩ : ∃ A0, A0 = w.alloc (.cells #[.string ⟨d.toArray⟩, .string ⟨p.toArray⟩, .int .i64 n] 23) := ⟨_, rfl⟩
  have hz0 : A0.heap.size = w.heap.size + 1 := by rw [hA0, World.size_alloc]
  obtain ⟨A1, hA1⟩ : ∃ A1, A1 = A0.alloc (.cells #[.string ⟨c.toArray⟩, .string ⟨r.toArray⟩] 43) := ⟨_, rfl⟩
  have hz1 : A1.heap.size = w.heap.size + 1 + 1 := by rw [hA1, World.size_alloc, hz0]
  obtain ⟨A2, hA2⟩ : ∃ A2, A2 = A1.alloc (.cells #[.string ByteArray.empty, .string ByteArray.empty, .int .i64 0] 23) := ⟨_, rfl⟩
  have k0 : Chg No w A2 := by rw [hA2, hA1, hA0]; exact (((Chg.refl No w).alloc _).alloc _).alloc _
  have bx0 : BoxL A2 w.heap.size (.string ⟨d.toArray⟩) (.string ⟨p.toArray⟩) (.int .i64 n) := by
    rw [hA2, hA1, hA0]; exact (BoxL.new w _ _ _ _).keep (((Chg.refl No _).alloc _).alloc _)
  have bx1 : Box2 A2 (w.heap.size + 1) (.string ⟨c.toArray⟩) (.string ⟨r.toArray⟩) := by
    rw [hA2, hA1, ← hz0]; exact (Box2.new A0 _ _ _).keep ((Chg.refl No _).alloc _)
  have bx2 : BoxL A2 (w.heap.size + 1 + 1) (.string ByteArray.empty) (.string ByteArray.empty) (.int .i64 0) := by
    rw [hA2, ← hz1]; exact BoxL.new A1 _ _ _ _
  have HBOX : Hid (∀ W, Chg No A2 W → BoxL W w.heap.size (.string ⟨d.toArray⟩) (.string ⟨p.toArray⟩) (.int .i64 n) ∧ Box2 W (w.heap.size + 1) (.string ⟨c.toArray⟩) (.string ⟨r.toArray⟩) ∧ BoxL W (w.heap.size + 1 + 1) (.string ByteArray.empty) (.string ByteArray.empty) (.int .i64 0)) := Lib.hid (fun W hW => ⟨bx0.keep hW, bx1.keep hW, bx2.keep hW⟩)
  have HA2 : Hid (A2 = ((w.alloc (.cells #[.string ⟨d.toArray⟩, .string ⟨p.toArray⟩, .int .i64 n] 23)).alloc (.cells #[.string ⟨c.toArray⟩, .string ⟨r.toArray⟩] 43)).alloc (.cells #[.string ByteArray.empty, .string ByteArray.empty, .int .i64 0] 23)) := Lib.hid (by rw [hA2, hA1, hA0])
  rw [HA2.out] at HBOX k0 bx0
  obtain ⟨c0, c1, c2, fr⟩ := bx0
  clear HA2 bx1 bx2 hA2 hA1 hA0 hz1 hz0
  cases hv : validB d p n with
  | false =>
    have HS : Hid (appS d p n c r = 1) := Lib.hid (by rw [appS, appOk, hv]; rfl)
    have HP := Lib.hid (app_stop HS.out (by decide))
    rw [HS.out, HP.out.1, HP.out.2]
    rw [hv] at q1
    clear hv
    go_enter Tryd.func23, Tryd.ntmps23
    go_wp2_with (go_at_call 46; refine (q1.out _).mono ?_; rintro e w1 ⟨rfl, hk1⟩; obtain ⟨⟨c0, c1, c2, fr⟩, ⟨d0, d1, fd⟩, ⟨e0, e1, e2, fe⟩⟩ := HBOX.out w1 hk1)
    obtain ⟨z0, z1, z2, _⟩ := (HBOX.out _ hk1).2.2.put (.string ⟨d.toArray⟩) (.string ⟨p.toArray⟩) (.int .i64 n)
    refine bodyPost_ret (v := .tuple #[.agg #[.string ⟨d.toArray⟩, .string ⟨p.toArray⟩, .int .i64 n], .int .i64 1]) (by simp [results, Tryd.results23, go_sem, z0, z1, z2]) rfl ?_
    exact ⟨rfl, (k0.trans hk1).put3 (fun h => absurd h (by omega)) _ _ _⟩
  | true =>
    obtain ⟨hlen, hn0, hn1⟩ := valid_parts hv
    cases hrec : recB c r with
    | false =>
      have HS : Hid (appS d p n c r = 1) := Lib.hid (by rw [appS, appOk, hv, hrec]; rfl)
      have HP := Lib.hid (app_stop HS.out (by decide))
      rw [HS.out, HP.out.1, HP.out.2]
      rw [hv] at q1
      rw [hrec] at q2
      clear hv hrec
      go_enter Tryd.func23, Tryd.ntmps23
      go_wp2_with (first | (go_at_call 46; refine (q1.out _).mono ?_; rintro e w1 ⟨rfl, hk1⟩; obtain ⟨⟨c0, c1, c2, fr⟩, ⟨d0, d1, fd⟩, ⟨e0, e1, e2, fe⟩⟩ := HBOX.out w1 hk1) | (go_at_call 50; refine (q2.out _).mono ?_; rintro e w2 ⟨rfl, hk2⟩; obtain ⟨⟨c0, c1, c2, fr⟩, ⟨d0, d1, fd⟩, ⟨e0, e1, e2, fe⟩⟩ := HBOX.out w2 (hk1.trans hk2)))
      obtain ⟨z0, z1, z2, _⟩ := (HBOX.out _ (hk1.trans hk2)).2.2.put (.string ⟨d.toArray⟩) (.string ⟨p.toArray⟩) (.int .i64 n)
      refine bodyPost_ret (v := .tuple #[.agg #[.string ⟨d.toArray⟩, .string ⟨p.toArray⟩, .int .i64 n], .int .i64 1]) (by simp [results, Tryd.results23, go_sem, z0, z1, z2]) rfl ?_
      exact ⟨rfl, (k0.trans (hk1.trans hk2)).put3 (fun h => absurd h (by omega)) _ _ _⟩
    | true =>
      by_cases h60 : n = 60
      · have HS : Hid (appS d p n c r = 2) := Lib.hid (by rw [appS, appOk, hv, hrec, h60]; rfl)
        have HP := Lib.hid (app_stop HS.out (by decide))
        rw [HS.out, HP.out.1, HP.out.2]
        rw [hv] at q1
        rw [hrec] at q2
        have h60' : (n == 60) = true := by rw [h60]; rfl
        clear hv hrec h60
        go_enter Tryd.func23, Tryd.ntmps23
        go_wp2_with (first | (go_at_call 46; refine (q1.out _).mono ?_; rintro e w1 ⟨rfl, hk1⟩; obtain ⟨⟨c0, c1, c2, fr⟩, ⟨d0, d1, fd⟩, ⟨e0, e1, e2, fe⟩⟩ := HBOX.out w1 hk1) | (go_at_call 50; refine (q2.out _).mono ?_; rintro e w2 ⟨rfl, hk2⟩; obtain ⟨⟨c0, c1, c2, fr⟩, ⟨d0, d1, fd⟩, ⟨e0, e1, e2, fe⟩⟩ := HBOX.out w2 (hk1.trans hk2)))
        obtain ⟨z0, z1, z2, _⟩ := (HBOX.out _ (hk1.trans hk2)).2.2.put (.string ⟨d.toArray⟩) (.string ⟨p.toArray⟩) (.int .i64 n)
        refine bodyPost_ret (v := .tuple #[.agg #[.string ⟨d.toArray⟩, .string ⟨p.toArray⟩, .int .i64 n], .int .i64 2]) (by simp [results, Tryd.results23, go_sem, z0, z1, z2]) rfl ?_
        exact ⟨rfl, (k0.trans (hk1.trans hk2)).put3 (fun h => absurd h (by omega)) _ _ _⟩
      · have HS : Hid (appS d p n c r = 0) := Lib.hid (by rw [appS, appOk, hv, hrec]; simp [h60])
        obtain ⟨k, rfl⟩ := Int.eq_ofNat_of_zero_le hn0
        have HP1 : Hid (appP d p (k : Int) c r = p ++ (lineL k c r ++ [10])) := Lib.hid (by rw [appP, HS.out, if_pos rfl]; rfl)
        have HP2 : Hid (appN d p (k : Int) c r = (k : Int) + 1) := Lib.hid (by rw [appN, HS.out, if_pos rfl])
        have hk60 : k < 60 := by omega
        have q3 := Lib.hid (fun W => l12Line_any k c r W (by omega) (by omega) (by omega))
        have hll := line_len k c r hk60 hrec
        obtain ⟨L, hL⟩ : ∃ L, lineL k c r ++ [10] = L := ⟨_, rfl⟩
        have hLl : L.length ≤ 372 := by rw [← hL, List.length_append]; simp; omega
        obtain ⟨x, hx⟩ : ∃ x, x = p ++ L := ⟨_, rfl⟩
        have a1 := cat_to (P := Tryd.prog) hx (by rw [hx, List.length_append]; omega)
        rw [hL] at q3 HP1
        rw [← hx] at HP1
        rw [HS.out, HP1.out, HP2.out]
        rw [hv] at q1
        rw [hrec] at q2
        unfold rv at q3
        have h60' : (((k : Nat) : Int) == 60) = false := by rw [beq_eq_false_iff_ne]; exact h60
        clear hv hrec h60 hL hx hll
        go_enter Tryd.func23, Tryd.ntmps23
        go_wp2_with (first | (go_at_call 46; refine (q1.out _).mono ?_; rintro e w1 ⟨rfl, hk1⟩; obtain ⟨⟨c0, c1, c2, fr⟩, ⟨d0, d1, fd⟩, ⟨e0, e1, e2, fe⟩⟩ := HBOX.out w1 hk1) | (go_at_call 50; refine (q2.out _).mono ?_; rintro e w2 ⟨rfl, hk2⟩; obtain ⟨⟨c0, c1, c2, fr⟩, ⟨d0, d1, fd⟩, ⟨e0, e1, e2, fe⟩⟩ := HBOX.out w2 (hk1.trans hk2)))
        refine wp_region_K (S := fun W => BoxL W w.heap.size (.string ⟨d.toArray⟩) (.string ⟨p.toArray⟩) (.int .i64 (k : Int)) ∧ Box2 W (w.heap.size + 1) (.string ⟨c.toArray⟩) (.string ⟨r.toArray⟩)) (k := 7) (by kernel_rfl) ?_
        have kk := (hk1.trans hk2).keep (Chg.refl No w2).drew
        have hS : BoxL w2.drew w.heap.size (.string ⟨d.toArray⟩) (.string ⟨p.toArray⟩) (.int .i64 (k : Int)) ∧ Box2 w2.drew (w.heap.size + 1) (.string ⟨c.toArray⟩) (.string ⟨r.toArray⟩) := ⟨(HBOX.out _ kk).1, (HBOX.out _ kk).2.1⟩
        generalize w2.drew = W1 at hS kk ⊢
        clear c0 c1 c2 fr d0 d1 fd e0 e1 e2 fe
        refine wpAnyK_take 0 (.pointer (some ⟨w.heap.size, 1, none⟩)) rfl (by kernel_rfl) (fun _ _ _ h => h) hS rfl (by rintro w ⟨⟨c0, c1, c2, fr⟩, d0, d1, fr'⟩; go_simp) ?_
        simp only [List.getElem_toArray, List.getElem_cons_zero, Act.put, List.setIfInBounds_toArray, List.set_cons_zero, List.set_cons_succ]
        refine wpAnyK_take 1 (.string ⟨p.toArray⟩) rfl (by kernel_rfl) (fun _ _ _ h => h) hS rfl (by rintro w ⟨⟨c0, c1, c2, fr⟩, d0, d1, fr'⟩; go_simp) ?_
        simp only [List.getElem_toArray, List.getElem_cons_succ, List.getElem_cons_zero, Act.put, List.setIfInBounds_toArray, List.set_cons_zero, List.set_cons_succ]
        refine wpAnyK_take 2 (.pointer (some ⟨w.heap.size, 2, none⟩)) rfl (by kernel_rfl) (fun _ _ _ h => h) hS rfl (by rintro w ⟨⟨c0, c1, c2, fr⟩, d0, d1, fr'⟩; go_simp) ?_
        simp only [List.getElem_toArray, List.getElem_cons_succ, List.getElem_cons_zero, Act.put, List.setIfInBounds_toArray, List.set_cons_zero, List.set_cons_succ]
        refine wpAnyK_take 3 (.int .i64 (k : Int)) rfl (by kernel_rfl) (fun _ _ _ h => h) hS rfl (by rintro w ⟨⟨c0, c1, c2, fr⟩, d0, d1, fr'⟩; go_simp) ?_
        simp only [List.getElem_toArray, List.getElem_cons_succ, List.getElem_cons_zero, Act.put, List.setIfInBounds_toArray, List.set_cons_zero, List.set_cons_succ]
        refine wpAnyK_take 4 (.agg #[.string ⟨c.toArray⟩, .string ⟨r.toArray⟩]) rfl (by kernel_rfl) (fun _ _ _ h => h) hS rfl (by rintro w ⟨⟨c0, c1, c2, fr⟩, d0, d1, fr'⟩; go_simp) ?_
        simp only [List.getElem_toArray, List.getElem_cons_succ, List.getElem_cons_zero, Act.put, List.setIfInBounds_toArray, List.set_cons_zero, List.set_cons_succ]
        refine wpAnyK_1 5 (by kernel_rfl) (wpOpK' rfl rfl ?_)
        intro K hK
        refine ocallR (f := 51) (args := #[.int .i64 (k : Int), .agg #[.string ⟨c.toArray⟩, .string ⟨r.toArray⟩]]) (by go_simp) (q3.out W1) (fun w3 h3 => hK.out _ _ ⟨hS.1.keep h3, hS.2.keep h3⟩ ?_)
        clear hK K
        simp only [List.getElem_toArray, List.getElem_cons_succ, List.getElem_cons_zero, Act.put, List.setIfInBounds_toArray, List.set_cons_zero, List.set_cons_succ]
        have hS := (⟨hS.1.keep h3, hS.2.keep h3⟩ : BoxL w3 w.heap.size (.string ⟨d.toArray⟩) (.string ⟨p.toArray⟩) (.int .i64 (k : Int)) ∧ Box2 w3 (w.heap.size + 1) (.string ⟨c.toArray⟩) (.string ⟨r.toArray⟩))
        have kk := kk.trans h3
        refine wpAnyK_take 6 (.string ⟨x.toArray⟩) rfl (by kernel_rfl) (fun _ _ _ h => h) hS rfl (by rintro w ⟨⟨c0, c1, c2, fr⟩, d0, d1, fr'⟩; go_simp) ?_
        simp only [List.getElem_toArray, List.getElem_cons_succ, List.getElem_cons_zero, Act.put, List.setIfInBounds_toArray, List.set_cons_zero, List.set_cons_succ]
        refine wpAnyK_tail 7 rfl (by kernel_rfl) ?_
        simp only [List.drop_succ_cons, List.drop_zero]
        obtain ⟨⟨c0, c1, c2, fr⟩, ⟨d0, d1, fd⟩, ⟨e0, e1, e2, fe⟩⟩ := HBOX.out w3 kk
        clear hS
        go_wp2_with fail
        have kst := Chg.setCell (S := fun q => q = w.heap.size) (Chg.setCell (S := fun q => q = w.heap.size) (Chg.refl _ w3) (p := ⟨w.heap.size, 1, none⟩) (fun _ => rfl) (.string ⟨x.toArray⟩)) (p := ⟨w.heap.size, 2, none⟩) (fun _ => rfl) (.int .i64 ((k : Int) + 1))
        obtain ⟨z0, z1, z2, _⟩ := ((HBOX.out w3 kk).2.2.step kst (by omega)).put (.string ⟨d.toArray⟩) (.string ⟨x.toArray⟩) (.int .i64 ((k : Int) + 1))
        refine bodyPost_ret (v := .tuple #[.agg #[.string ⟨d.toArray⟩, .string ⟨x.toArray⟩, .int .i64 ((k : Int) + 1)], .int .i64 0]) (by simp [results, Tryd.results23, go_sem, z0, z1, z2]) rfl ?_
        exact ⟨rfl, ((k0.trans kk).step kst (fun q hq hl => by omega)).put3 (fun h => absurd h (by omega)) _ _ _⟩

set_option maxRecDepth 100000 in
set_option maxHeartbeats 2000000 in
theorem implAppend_any (d p : List UInt8) (n : Int) (c r : List UInt8) (w : World) (hd : d.length ≤ 1048576) (hp : p.length ≤ 1048576) (hc : c.length ≤ 1048576) (hr : r.length ≤ 1048576) (hw : Lay w) :
    Calls Tryd.prog 25 #[lv d p n, rv c r] w fun e w' => e = .returned (.tuple #[lv d (appP d p n c r) (appN d p n c r), .int .i64 (appS d p n c r)]) ∧ Chg No w w' := by
  have q1 := Lib.hid (fun W hW => implValid_any d p n W hd hp hW)
  have q2 := Lib.hid (fun W hW => IsValidRecord_any c r W (by omega) (by omega) hW)
  unfold lv at q1 ⊢
  unfold rv at q2 ⊢
  obtain ⟨A0, hA0⟩ : ∃ A0, A0 = w.alloc (.cells #[.string ⟨d.toArray⟩, .string ⟨p.toArray⟩, .int .i64 n] 23) := ⟨_, rfl⟩
  have hz0 : A0.heap.size = w.heap.size + 1 := by rw [hA0, World.size_alloc]
  obtain ⟨A1, hA1⟩ : ∃ A1, A1 = A0.alloc (.cells #[.string ⟨c.toArray⟩, .string ⟨r.toArray⟩] 43) := ⟨_, rfl⟩
  have hz1 : A1.heap.size = w.heap.size + 1 + 1 := by rw [hA1, World.size_alloc, hz0]
  obtain ⟨A2, hA2⟩ : ∃ A2, A2 = A1.alloc (.cells #[.string ByteArray.empty, .string ByteArray.empty, .int .i64 0] 23) := ⟨_, rfl⟩
  have k0 : Chg No w A2 := by rw [hA2, hA1, hA0]; exact (((Chg.refl No w).alloc _).alloc _).alloc _
  have bx0 : BoxL A2 w.heap.size (.string ⟨d.toArray⟩) (.string ⟨p.toArray⟩) (.int .i64 n) := by
    rw [hA2, hA1, hA0]; exact (BoxL.new w _ _ _ _).keep (((Chg.refl No _).alloc _).alloc _)
  have bx1 : Box2 A2 (w.heap.size + 1) (.string ⟨c.toArray⟩) (.string ⟨r.toArray⟩) := by
    rw [hA2, hA1, ← hz0]; exact (Box2.new A0 _ _ _).keep ((Chg.refl No _).alloc _)
  have bx2 : BoxL A2 (w.heap.size + 1 + 1) (.string ByteArray.empty) (.string ByteArray.empty) (.int .i64 0) := by
    rw [hA2, ← hz1]; exact BoxL.new A1 _ _ _ _
  have HBOX : Hid (∀ W, Chg No A2 W → BoxL W w.heap.size (.string ⟨d.toArray⟩) (.string ⟨p.toArray⟩) (.int .i64 n) ∧ Box2 W (w.heap.size + 1) (.string ⟨c.toArray⟩) (.string ⟨r.toArray⟩) ∧ BoxL W (w.heap.size + 1 + 1) (.string ByteArray.empty) (.string ByteArray.empty) (.int .i64 0)) := Lib.hid (fun W hW => ⟨bx0.keep hW, bx1.keep hW, bx2.keep hW⟩)
  have HA2 : Hid (A2 = ((w.alloc (.cells #[.string ⟨d.toArray⟩, .string ⟨p.toArray⟩, .int .i64 n] 23)).alloc (.cells #[.string ⟨c.toArray⟩, .string ⟨r.toArray⟩] 43)).alloc (.cells #[.string ByteArray.empty, .string ByteArray.empty, .int .i64 0] 23)) := Lib.hid (by rw [hA2, hA1, hA0])
  rw [HA2.out] at HBOX k0 bx0
  obtain ⟨c0, c1, c2, fr⟩ := bx0
  clear HA2 bx1 bx2 hA2 hA1 hA0 hz1 hz0
  have HL := Lib.hid (hw.keep k0)
  clear hw
  cases hv : validB d p n with
  | false =>
    have HS : Hid (appS d p n c r = 1) := Lib.hid (by rw [appS, appOk, hv]; rfl)
    have HP := Lib.hid (app_stop HS.out (by decide))
    rw [HS.out, HP.out.1, HP.out.2]
    rw [hv] at q1
    clear hv
    go_enter Tryd.func25, Tryd.ntmps25
    go_wp2_with (go_at_call 17; refine (q1.out _ HL.out).mono ?_; rintro e w1 ⟨rfl, hk1⟩; obtain ⟨⟨c0, c1, c2, fr⟩, ⟨d0, d1, fd⟩, ⟨e0, e1, e2, fe⟩⟩ := HBOX.out w1 hk1)
    obtain ⟨z0, z1, z2, _⟩ := (HBOX.out _ hk1).2.2.put (.string ⟨d.toArray⟩) (.string ⟨p.toArray⟩) (.int .i64 n)
    refine bodyPost_ret (v := .tuple #[.agg #[.string ⟨d.toArray⟩, .string ⟨p.toArray⟩, .int .i64 n], .int .i64 1]) (by simp [results, Tryd.results25, go_sem, z0, z1, z2]) rfl ?_
    exact ⟨rfl, (k0.trans hk1).put3 (fun h => absurd h (by omega)) _ _ _⟩
  | true =>
    obtain ⟨hlen, hn0, hn1⟩ := valid_parts hv
    cases hrec : recB c r with
    | false =>
      have HS : Hid (appS d p n c r = 1) := Lib.hid (by rw [appS, appOk, hv, hrec]; rfl)
      have HP := Lib.hid (app_stop HS.out (by decide))
      rw [HS.out, HP.out.1, HP.out.2]
      rw [hv] at q1
      rw [hrec] at q2
      clear hv hrec
      go_enter Tryd.func25, Tryd.ntmps25
      go_wp2_with (first | (go_at_call 17; refine (q1.out _ HL.out).mono ?_; rintro e w1 ⟨rfl, hk1⟩; obtain ⟨⟨c0, c1, c2, fr⟩, ⟨d0, d1, fd⟩, ⟨e0, e1, e2, fe⟩⟩ := HBOX.out w1 hk1) | (go_at_call 39; refine (q2.out _ (HL.out.keep hk1)).mono ?_; rintro e w2 ⟨rfl, hk2⟩; obtain ⟨⟨c0, c1, c2, fr⟩, ⟨d0, d1, fd⟩, ⟨e0, e1, e2, fe⟩⟩ := HBOX.out w2 (hk1.trans hk2)))
      obtain ⟨z0, z1, z2, _⟩ := (HBOX.out _ (hk1.trans hk2)).2.2.put (.string ⟨d.toArray⟩) (.string ⟨p.toArray⟩) (.int .i64 n)
      refine bodyPost_ret (v := .tuple #[.agg #[.string ⟨d.toArray⟩, .string ⟨p.toArray⟩, .int .i64 n], .int .i64 1]) (by simp [results, Tryd.results25, go_sem, z0, z1, z2]) rfl ?_
      exact ⟨rfl, (k0.trans (hk1.trans hk2)).put3 (fun h => absurd h (by omega)) _ _ _⟩
    | true =>
      by_cases h60 : n = 60
      · have HS : Hid (appS d p n c r = 2) := Lib.hid (by rw [appS, appOk, hv, hrec, h60]; rfl)
        have HP := Lib.hid (app_stop HS.out (by decide))
        rw [HS.out, HP.out.1, HP.out.2]
        rw [hv] at q1
        rw [hrec] at q2
        have h60' : (n == 60) = true := by rw [h60]; rfl
        clear hv hrec h60
        go_enter Tryd.func25, Tryd.ntmps25
        go_wp2_with (first | (go_at_call 17; refine (q1.out _ HL.out).mono ?_; rintro e w1 ⟨rfl, hk1⟩; obtain ⟨⟨c0, c1, c2, fr⟩, ⟨d0, d1, fd⟩, ⟨e0, e1, e2, fe⟩⟩ := HBOX.out w1 hk1) | (go_at_call 39; refine (q2.out _ (HL.out.keep hk1)).mono ?_; rintro e w2 ⟨rfl, hk2⟩; obtain ⟨⟨c0, c1, c2, fr⟩, ⟨d0, d1, fd⟩, ⟨e0, e1, e2, fe⟩⟩ := HBOX.out w2 (hk1.trans hk2)))
        obtain ⟨z0, z1, z2, _⟩ := (HBOX.out _ (hk1.trans hk2)).2.2.put (.string ⟨d.toArray⟩) (.string ⟨p.toArray⟩) (.int .i64 n)
        refine bodyPost_ret (v := .tuple #[.agg #[.string ⟨d.toArray⟩, .string ⟨p.toArray⟩, .int .i64 n], .int .i64 2]) (by simp [results, Tryd.results25, go_sem, z0, z1, z2]) rfl ?_
        exact ⟨rfl, (k0.trans (hk1.trans hk2)).put3 (fun h => absurd h (by omega)) _ _ _⟩
      · have HS : Hid (appS d p n c r = 0) := Lib.hid (by rw [appS, appOk, hv, hrec]; simp [h60])
        obtain ⟨k, rfl⟩ := Int.eq_ofNat_of_zero_le hn0
        have HP1 : Hid (appP d p (k : Int) c r = p ++ (lineL k c r ++ [10])) := Lib.hid (by rw [appP, HS.out, if_pos rfl]; rfl)
        have HP2 : Hid (appN d p (k : Int) c r = (k : Int) + 1) := Lib.hid (by rw [appN, HS.out, if_pos rfl])
        have hk60 : k < 60 := by omega
        have q3 := Lib.hid (fun W hW => encoded_any k c r W hk60 hrec hW)
        have hll := line_len k c r hk60 hrec
        obtain ⟨L, hL⟩ : ∃ L, lineL k c r ++ [10] = L := ⟨_, rfl⟩
        have hLl : L.length ≤ 372 := by rw [← hL, List.length_append]; simp; omega
        obtain ⟨x, hx⟩ : ∃ x, x = p ++ L := ⟨_, rfl⟩
        have a1 := cat_to (P := Tryd.prog) hx (by rw [hx, List.length_append]; omega)
        rw [hL] at q3 HP1
        rw [← hx] at HP1
        rw [HS.out, HP1.out, HP2.out]
        rw [hv] at q1
        rw [hrec] at q2
        unfold rv at q3
        have h60' : (((k : Nat) : Int) == 60) = false := by rw [beq_eq_false_iff_ne]; exact h60
        clear hv hrec h60 hL hx hll
        go_enter Tryd.func25, Tryd.ntmps25
        go_wp2_with (first | (go_at_call 17; refine (q1.out _ HL.out).mono ?_; rintro e w1 ⟨rfl, hk1⟩; obtain ⟨⟨c0, c1, c2, fr⟩, ⟨d0, d1, fd⟩, ⟨e0, e1, e2, fe⟩⟩ := HBOX.out w1 hk1) | (go_at_call 39; refine (q2.out _ (HL.out.keep hk1)).mono ?_; rintro e w2 ⟨rfl, hk2⟩; obtain ⟨⟨c0, c1, c2, fr⟩, ⟨d0, d1, fd⟩, ⟨e0, e1, e2, fe⟩⟩ := HBOX.out w2 (hk1.trans hk2)))
        refine wp_region_K (S := fun W => BoxL W w.heap.size (.string ⟨d.toArray⟩) (.string ⟨p.toArray⟩) (.int .i64 (k : Int)) ∧ Box2 W (w.heap.size + 1) (.string ⟨c.toArray⟩) (.string ⟨r.toArray⟩)) (k := 7) (by kernel_rfl) ?_
        have kk := (hk1.trans hk2).keep (Chg.refl No w2).drew
        have hS : BoxL w2.drew w.heap.size (.string ⟨d.toArray⟩) (.string ⟨p.toArray⟩) (.int .i64 (k : Int)) ∧ Box2 w2.drew (w.heap.size + 1) (.string ⟨c.toArray⟩) (.string ⟨r.toArray⟩) := ⟨(HBOX.out _ kk).1, (HBOX.out _ kk).2.1⟩
        generalize w2.drew = W1 at hS kk ⊢
        clear c0 c1 c2 fr d0 d1 fd e0 e1 e2 fe
        refine wpAnyK_take 0 (.pointer (some ⟨w.heap.size, 1, none⟩)) rfl (by kernel_rfl) (fun _ _ _ h => h) hS rfl (by rintro w ⟨⟨c0, c1, c2, fr⟩, d0, d1, fr'⟩; go_simp) ?_
        simp only [List.getElem_toArray, List.getElem_cons_zero, Act.put, List.setIfInBounds_toArray, List.set_cons_zero, List.set_cons_succ]
        refine wpAnyK_take 1 (.string ⟨p.toArray⟩) rfl (by kernel_rfl) (fun _ _ _ h => h) hS rfl (by rintro w ⟨⟨c0, c1, c2, fr⟩, d0, d1, fr'⟩; go_simp) ?_
        simp only [List.getElem_toArray, List.getElem_cons_succ, List.getElem_cons_zero, Act.put, List.setIfInBounds_toArray, List.set_cons_zero, List.set_cons_succ]
        refine wpAnyK_take 2 (.pointer (some ⟨w.heap.size, 2, none⟩)) rfl (by kernel_rfl) (fun _ _ _ h => h) hS rfl (by rintro w ⟨⟨c0, c1, c2, fr⟩, d0, d1, fr'⟩; go_simp) ?_
        simp only [List.getElem_toArray, List.getElem_cons_succ, List.getElem_cons_zero, Act.put, List.setIfInBounds_toArray, List.set_cons_zero, List.set_cons_succ]
        refine wpAnyK_take 3 (.int .i64 (k : Int)) rfl (by kernel_rfl) (fun _ _ _ h => h) hS rfl (by rintro w ⟨⟨c0, c1, c2, fr⟩, d0, d1, fr'⟩; go_simp) ?_
        simp only [List.getElem_toArray, List.getElem_cons_succ, List.getElem_cons_zero, Act.put, List.setIfInBounds_toArray, List.set_cons_zero, List.set_cons_succ]
        refine wpAnyK_take 4 (.agg #[.string ⟨c.toArray⟩, .string ⟨r.toArray⟩]) rfl (by kernel_rfl) (fun _ _ _ h => h) hS rfl (by rintro w ⟨⟨c0, c1, c2, fr⟩, d0, d1, fr'⟩; go_simp) ?_
        simp only [List.getElem_toArray, List.getElem_cons_succ, List.getElem_cons_zero, Act.put, List.setIfInBounds_toArray, List.set_cons_zero, List.set_cons_succ]
        refine wpAnyK_1 5 (by kernel_rfl) (wpOpK' rfl rfl ?_)
        intro K hK
        refine ocallR (f := 52) (args := #[.int .i64 (k : Int), .agg #[.string ⟨c.toArray⟩, .string ⟨r.toArray⟩]]) (by go_simp) (q3.out W1 (HL.out.keep kk)) (fun w3 h3 => hK.out _ _ ⟨hS.1.keep h3, hS.2.keep h3⟩ ?_)
        clear hK K
        simp only [List.getElem_toArray, List.getElem_cons_succ, List.getElem_cons_zero, Act.put, List.setIfInBounds_toArray, List.set_cons_zero, List.set_cons_succ]
        have hS := (⟨hS.1.keep h3, hS.2.keep h3⟩ : BoxL w3 w.heap.size (.string ⟨d.toArray⟩) (.string ⟨p.toArray⟩) (.int .i64 (k : Int)) ∧ Box2 w3 (w.heap.size + 1) (.string ⟨c.toArray⟩) (.string ⟨r.toArray⟩))
        have kk := kk.trans h3
        refine wpAnyK_take 6 (.string ⟨x.toArray⟩) rfl (by kernel_rfl) (fun _ _ _ h => h) hS rfl (by rintro w ⟨⟨c0, c1, c2, fr⟩, d0, d1, fr'⟩; go_simp) ?_
        simp only [List.getElem_toArray, List.getElem_cons_succ, List.getElem_cons_zero, Act.put, List.setIfInBounds_toArray, List.set_cons_zero, List.set_cons_succ]
        refine wpAnyK_tail 7 rfl (by kernel_rfl) ?_
        simp only [List.drop_succ_cons, List.drop_zero]
        obtain ⟨⟨c0, c1, c2, fr⟩, ⟨d0, d1, fd⟩, ⟨e0, e1, e2, fe⟩⟩ := HBOX.out w3 kk
        clear hS
        go_wp2_with fail
        have kst := Chg.setCell (S := fun q => q = w.heap.size) (Chg.setCell (S := fun q => q = w.heap.size) (Chg.refl _ w3) (p := ⟨w.heap.size, 1, none⟩) (fun _ => rfl) (.string ⟨x.toArray⟩)) (p := ⟨w.heap.size, 2, none⟩) (fun _ => rfl) (.int .i64 ((k : Int) + 1))
        obtain ⟨z0, z1, z2, _⟩ := ((HBOX.out w3 kk).2.2.step kst (by omega)).put (.string ⟨d.toArray⟩) (.string ⟨x.toArray⟩) (.int .i64 ((k : Int) + 1))
        refine bodyPost_ret (v := .tuple #[.agg #[.string ⟨d.toArray⟩, .string ⟨x.toArray⟩, .int .i64 ((k : Int) + 1)], .int .i64 0]) (by simp [results, Tryd.results25, go_sem, z0, z1, z2]) rfl ?_
        exact ⟨rfl, ((k0.trans kk).step kst (fun q hq hl => by omega)).put3 (fun h => absurd h (by omega)) _ _ _⟩

set_option maxRecDepth 100000 in
theorem szRec_fit (c r : List UInt8) (K : Int) (w : World) (hK : K ≤ 1048576) (h : (c.length : Int) + (r.length : Int) ≤ K) :
    Calls Tryd.prog 22 #[rv c r, .int .i64 K] w fun e w' => e = .returned (.int .i64 (K - c.length - r.length)) ∧ Chg No w w' := by
  have k0 := (Chg.refl No w).alloc (.cells #[.string ⟨c.toArray⟩, .string ⟨r.toArray⟩] 39)
  obtain ⟨c0, c1, fr⟩ := Box2.new w (.string ⟨c.toArray⟩) (.string ⟨r.toArray⟩) 39
  unfold rv
  go_enter Tryd.func22, Tryd.ntmps22
  go_wp2_with fail
  go_ret
  exact ⟨rfl, k0⟩
set_option maxRecDepth 100000 in
theorem szRec_no (c r : List UInt8) (K : Int) (w : World) (h0 : 0 ≤ K) (hK : K ≤ 1048576) (h : K < (c.length : Int) + (r.length : Int)) (hc : c.length ≤ 9223372036854775807) (hr : r.length ≤ 9223372036854775807) :
    Calls Tryd.prog 22 #[rv c r, .int .i64 K] w fun e w' => e = .returned (.int .i64 (-1)) ∧ Chg No w w' := by
  have k0 := (Chg.refl No w).alloc (.cells #[.string ⟨c.toArray⟩, .string ⟨r.toArray⟩] 39)
  obtain ⟨c0, c1, fr⟩ := Box2.new w (.string ⟨c.toArray⟩) (.string ⟨r.toArray⟩) 39
  unfold rv
  by_cases h1 : K < (c.length : Int)
  · go_enter Tryd.func22, Tryd.ntmps22
    go_wp2_with fail
    go_ret
    exact ⟨rfl, k0⟩
  · go_enter Tryd.func22, Tryd.ntmps22
    go_wp2_with fail
    go_ret
    exact ⟨rfl, k0⟩
set_option maxRecDepth 100000 in
theorem toRec_any (c r : List UInt8) (w : World) :
    Calls Tryd.prog 24 #[rv c r] w fun e w' => e = .returned (rv c r) ∧ Chg No w w' := by
  have k0 := (Chg.refl No w).alloc (.cells #[.string ⟨c.toArray⟩, .string ⟨r.toArray⟩] 39)
  obtain ⟨c0, c1, fr⟩ := Box2.new w (.string ⟨c.toArray⟩) (.string ⟨r.toArray⟩) 39
  unfold rv
  go_enter Tryd.func24, Tryd.ntmps24
  go_wp2_with fail
  have B1 := (Box2.new (w.alloc (.cells #[.string ⟨c.toArray⟩, .string ⟨r.toArray⟩] 39)) (.string ⟨c.toArray⟩) (.string ⟨r.toArray⟩) 43).keep ((Chg.refl No _).alloc (.cells #[.string ⟨c.toArray⟩, .string ⟨r.toArray⟩] 43))
  rw [World.size_alloc] at B1
  obtain ⟨z0, z1, _⟩ := B1
  refine bodyPost_ret (v := .agg #[.string ⟨c.toArray⟩, .string ⟨r.toArray⟩]) (by simp [results, Tryd.results24, go_sem, z0, z1]) rfl ?_
  exact ⟨rfl, (k0.alloc _).alloc _⟩
end Go.Proofs.YtmnohickmidfkaaDoor
