import Derived.Test.YtndhijckbponkaaGreatDoorTb
/- whether a Player is what it should be -/
namespace Go.Proofs.YtndhijckbponkaaGreatDoor
open Go.RowKit

def wantP (x : Pl) (l : List Int) : Pl := servedP x.frm x.ca.pol x.ca.size (l.drop x.frm.toNat)
def playB (x : Pl) (l : List Int) : Bool := inB x.frm 0 l.length && (inB x.ca.pol 1 7 && inB x.ca.size 1 6) && (sameB (wantP x l).ca x.ca && (wantP x l).fa == x.fa)
theorem sameB_comm (a b : Ca) : sameB a b = sameB b a := by
  unfold sameB
  rw [show (a.pol == b.pol) = (b.pol == a.pol) from BEq.comm, show (a.size == b.size) = (b.size == a.size) from BEq.comm, show (a.hand == b.hand) = (b.hand == a.hand) from BEq.comm,
    show (a.pages == b.pages) = (b.pages == a.pages) from BEq.comm, show (a.marks == b.marks) = (b.marks == a.marks) from BEq.comm]
theorem box71 {w : World} {t : TypeId} {x0 x1 x2 x3 x4 x5 x6 : Value} {R : World → Prop} (h : ∀ W, Chg No w W → Box7 W w.heap.size x0 x1 x2 x3 x4 x5 x6 → R W) : R (w.alloc (.cells #[x0, x1, x2, x3, x4, x5, x6] t)) :=
  h _ ((Chg.refl No w).alloc _) (Box7.new w x0 x1 x2 x3 x4 x5 x6 t)

set_option maxRecDepth 100000 in
set_option maxHeartbeats 1000000 in
theorem l12Plays_any (A : Nat → Prop) (v rv : Value) (x : Pl) (l : List Int) (w : World) (h : RP A w v x) (hr : RI No w rv l) :
    Calls Tryz.prog 71 #[v, rv] w (Ret fun r w' => r = .bool (playB x l) ∧ Chg No w w') := by
  obtain ⟨frm, c, fa⟩ := x
  have hv := h
  obtain ⟨pv, mv, rfl, hp, hmk⟩ := h
  simp only at hp hmk hv ⊢
  obtain ⟨pa, pn, pc, rfl⟩ := hp.shape
  obtain ⟨ma, mn, mc, rfl⟩ := hmk.shape
  obtain ⟨ra, rc, rfl, _⟩ := id hr
  have k0 := (Chg.refl No w).alloc (.cells #[.int .i64 frm, .int .i64 c.pol, .int .i64 c.size, .slice pa pn pc, .slice ma mn mc, .int .i64 c.hand, .int .i64 fa] 68)
  cases h1 : inB frm 0 l.length
  · have HP : Hid (playB ⟨frm, c, fa⟩ l = false) := Lib.hid (by simp [playB, h1])
    have H1 := Lib.hid h1
    clear h1
    go_enter Tryz.func71, Tryz.ntmps71
    go_wp2_with fail
    refine (l1In_any _ _ _ _).mono ?_
    rintro e w1 ⟨rfl, rfl⟩
    rw [H1.out]
    go_wp2_with fail
    go_ret
    exact ⟨_, rfl, by rw [HP.out]; rfl, k0⟩
  · cases h2 : (inB c.pol 1 7 && inB c.size 1 6)
    · have HP : Hid (playB ⟨frm, c, fa⟩ l = false) := Lib.hid (by simp only [playB, h2, Bool.and_false, Bool.false_and])
      have H1 := Lib.hid h1
      have H2 := Lib.hid h2
      clear h1 h2
      go_enter Tryz.func71, Tryz.ntmps71
      go_wp2_with fail
      refine (l1In_any _ _ _ _).mono ?_
      rintro e w1 ⟨rfl, rfl⟩
      rw [H1.out]
      go_wp2_with fail
      refine (l4Sizes_any _ _ _).mono ?_
      rintro e w2 ⟨rfl, rfl⟩
      rw [H2.out]
      go_wp2_with fail
      go_ret
      exact ⟨_, rfl, by rw [HP.out]; rfl, k0⟩
    · have HP : Hid (playB ⟨frm, c, fa⟩ l = (sameB (wantP ⟨frm, c, fa⟩ l).ca c && (wantP ⟨frm, c, fa⟩ l).fa == fa)) := Lib.hid (by simp only [playB, h1, h2, Bool.true_and])
      have hb := inB_iff.1 h1
      have hok : Ok (newC c.pol c.size) := by
        simp only [Bool.and_eq_true, inB_iff] at h2
        exact ok_new h2.1 h2.2
      have H1 := Lib.hid h1
      have H2 := Lib.hid h2
      have HF : Hid (frm = (frm.toNat : Int)) := Lib.hid (by omega)
      have HI : Hid (frm.toNat ≤ l.length) := Lib.hid (by omega)
      clear h1 h2 hb
      go_enter Tryz.func71, Tryz.ntmps71
      go_wp2_with fail
      refine box71 (R := fun W => Calls _ _ _ W _) (fun W kW b0 => ?_)
      refine (l1In_any _ _ _ _).mono ?_
      rintro e w1 ⟨rfl, rfl⟩
      rw [H1.out]
      obtain ⟨c0, c1, c2, c3, c4, c5, c6, _⟩ := id b0
      go_wp2_with fail
      refine (l4Sizes_any _ _ _).mono ?_
      rintro e w2 ⟨rfl, rfl⟩
      rw [H2.out]
      go_wp2_with fail
      refine (l12Player_any frm c.pol c.size frm.toNat HF.out _ l HI.out W (hr.keep kW) hok).mono ?_
      rintro e w3 ⟨v3, rfl, o3, k3⟩
      have hwant : wantP ⟨frm, c, fa⟩ l = servedP frm c.pol c.size (l.drop frm.toNat) := rfl
      rw [← hwant] at o3
      obtain ⟨y, hy⟩ : ∃ y, wantP ⟨frm, c, fa⟩ l = y := ⟨_, rfl⟩
      rw [hy] at o3 HP
      clear hwant hy c0 c1 c2 c3 c4 c5 c6
      have b0 := b0.keep k3
      have kk := kW.keep k3
      have o3' := o3
      obtain ⟨xp, xm, rfl, hxp, hxm, hxa⟩ := o3
      obtain ⟨ya, yn, yc, rfl⟩ := hxp.shape
      obtain ⟨za, zn, zc, rfl⟩ := hxm.shape
      have kal := (Chg.refl No w3).alloc (.cells #[.int .i64 y.frm, .int .i64 y.ca.pol, .int .i64 y.ca.size, .slice ya yn yc, .slice za zn zc, .int .i64 y.ca.hand, .int .i64 y.fa] 68)
      have b1 := Box7.new w3 (.int .i64 y.frm) (.int .i64 y.ca.pol) (.int .i64 y.ca.size) (.slice ya yn yc) (.slice za zn zc) (.int .i64 y.ca.hand) (.int .i64 y.fa) 68
      have b0 := b0.keep kal
      have kk := kk.keep kal
      have r3 := (o3'.keep kal).read (A := No) (fun _ _ e => e)
      obtain ⟨c0, c1, c2, c3, c4, c5, c6, _⟩ := id b0
      go_wp2_with fail
      refine (l12SameCache_any No A _ _ y.ca c _ r3.cache (hv.keep kk).cache).mono ?_
      rintro e w4 ⟨_, rfl, rfl, k4⟩
      have b0 := b0.keep k4
      have b1 := b1.keep k4
      have kk := kk.keep k4
      clear c0 c1 c2 c3 c4 c5 c6
      obtain ⟨c0, c1, c2, c3, c4, c5, c6, _⟩ := id b0
      obtain ⟨d0, d1, d2, d3, d4, d5, d6, _⟩ := id b1
      cases hs : sameB y.ca c
      · have HP : Hid (playB ⟨frm, c, fa⟩ l = false) := Lib.hid (by rw [HP.out, hs]; rfl)
        go_wp2_with fail
        go_ret
        exact ⟨_, rfl, by rw [HP.out]; rfl, kk⟩
      · have HP : Hid (playB ⟨frm, c, fa⟩ l = (y.fa == fa)) := Lib.hid (by rw [HP.out, hs]; rfl)
        go_wp2_with fail
        go_ret
        exact ⟨_, rfl, by rw [HP.out]; rfl, kk⟩
end Go.Proofs.YtndhijckbponkaaGreatDoor
