import Derived.Test.YtndhijckbponkaaGreatDoorIk
import Derived.Test.YtndhijckbponkaaGreatDoorPkX5
/- a player's entry, read by the reference -/
namespace Go.Proofs.YtndhijckbponkaaGreatDoor
open Go.RowKit

def zeroPl : Pl := ⟨0, zeroC, 0⟩
/-- the player of an entry -/
def entP (s : List UInt8) (rq : List Int) : Pl := servedP (entN s).2.2 (entN s).1 (entN s).2.1 (rq.drop (entN s).2.2.toNat)
def entQ (s : List UInt8) (rq : List Int) : Pl := if entB s rq.length then entP s rq else zeroPl
theorem RPO.zero (base : Nat) (w : World) : RPO base w (.agg #[.int .i64 0, .int .i64 0, .int .i64 0, .slice none 0 0, .slice none 0 0, .int .i64 0, .int .i64 0]) zeroPl :=
  ⟨_, _, rfl, OI.nil _ _, OI.nil _ _, fun q hq => by simp [own, Value.ownBlock] at hq⟩
set_option maxRecDepth 100000 in
set_option maxHeartbeats 4000000 in
theorem l12Entry_any (s : List UInt8) (vr : Value) (rq : List Int) (w : World) (hs : s.length ≤ 1073741824) (hr : RI No w vr rq) :
    Calls Tryz.prog 40 #[.string ⟨s.toArray⟩, vr] w (Ret2 fun v0 v1 w' => v1 = .bool (entB s rq.length) ∧ RPO w.heap.size w' v0 (entQ s rq) ∧ Chg No w w') := by
  obtain ⟨ra, rc, rfl, _, _, hrl, _, _⟩ := id hr
  have k0 := (Chg.refl No w).alloc (.cells #[.int .i64 0, .int .i64 0, .int .i64 0, .slice none 0 0, .slice none 0 0, .int .i64 0, .int .i64 0] 68)
  have b7 := Box7.new w (.int .i64 0) (.int .i64 0) (.int .i64 0) (.slice none 0 0) (.slice none 0 0) (.int .i64 0) (.int .i64 0) 68
  have hr1 := hr.keep k0
  obtain ⟨A, hA⟩ : ∃ A, preB 47 s = A := ⟨_, rfl⟩
  obtain ⟨B, hB⟩ : ∃ B, postB 47 s = B := ⟨_, rfl⟩
  obtain ⟨C, hC⟩ : ∃ C, preB 32 B = C := ⟨_, rfl⟩
  obtain ⟨D, hD⟩ : ∃ D, postB 32 B = D := ⟨_, rfl⟩
  have hBl : B.length ≤ s.length := by
    rw [← hB]; unfold postB
    rw [List.length_drop]
    have := (List.dropWhile_sublist (fun x : UInt8 => x != 47) (l := s)).length_le
    omega
  have hDl : D.length ≤ B.length := by
    rw [← hD]; unfold postB
    rw [List.length_drop]
    have := (List.dropWhile_sublist (fun x : UInt8 => x != 32) (l := B)).length_le
    omega
  have hCl : C.length ≤ B.length := by rw [← hC]; exact pre_le _ _
  have hEB : entB s rq.length = (numB C && numB D && (inB (polOf A) 1 7 && inB (valS C) 1 6) && inB (valS D) 0 rq.length) := by
    unfold entB; rw [hA, hB, hC, hD]
  have hEN : entN s = (polOf A, valS C, valS D) := by unfold entN; rw [hA, hB, hC, hD]
  have q1 := Lib.hid (fun W => (l4Cut_any s 47 W hs : Calls Tryz.prog 81 #[.string ⟨s.toArray⟩, .int .u8 47] W _))
  have q2 := Lib.hid (fun W => (l4Cut_any B 32 W (by omega) : Calls Tryz.prog 81 #[.string ⟨B.toArray⟩, .int .u8 32] W _))
  have q3 := Lib.hid (fun W => l4Policy_any A W)
  have q4 := Lib.hid (fun W => l1Read_any C W (by omega))
  have q5 := Lib.hid (fun W => l1Read_any D W (by omega))
  unfold cutV at q1 q2
  rw [hA, hB] at q1
  rw [hC, hD] at q2
  clear hA hB hC hD hBl hCl hDl
  cases hc : numB C with
  | false =>
    have HE : Hid (entB s rq.length = false) := Lib.hid (by rw [hEB, hc]; rfl)
    have HQ : Hid (entQ s rq = zeroPl) := Lib.hid (by unfold entQ; rw [HE.out]; rfl)
    rw [hc] at q4
    clear hEB hEN hc
    go_enter Tryz.func40, Tryz.ntmps40
    go_wp2_with fail
    refine (q1.out _).mono ?_
    rintro e w1 ⟨rfl, m1, rfl⟩
    go_wp2_with fail
    refine (q2.out _).mono ?_
    rintro e w2 ⟨rfl, m2, rfl⟩
    go_wp2_with fail
    refine (q3.out _).mono ?_
    rintro e w3 ⟨rfl, hk3⟩
    have hk3 := (drewN_chg' _ _).trans hk3
    go_wp2_with fail
    refine (q4.out _).mono ?_
    rintro e w4 ⟨rfl, m4, rfl⟩
    go_wp2_with fail
    refine (q5.out _).mono ?_
    rintro e w5 ⟨rfl, m5, rfl⟩
    have hch := hk3.trans (drewN_chg' w3 (m4 + m5))
    clear hk3
    have bz := b7.keep hch
    have kz := k0.keep hch
    obtain ⟨s0, s1, s2, s3, s4, s5, s6, sf⟩ := id bz
    have sf0 := sf 0
    have sf1 := sf 1
    have sf2 := sf 2
    have sf3 := sf 3
    have sf4 := sf 4
    have sf5 := sf 5
    have sf6 := sf 6
    clear sf
    have bz2 := bz.put7 (.int .i64 0) (.int .i64 0) (.int .i64 0) (.slice none 0 0) (.slice none 0 0) (.int .i64 0) (.int .i64 0)
    have kz2 := kz.put7 (b := w.heap.size) (fun h => absurd h (Nat.lt_irrefl _)) (.int .i64 0) (.int .i64 0) (.int .i64 0) (.slice none 0 0) (.slice none 0 0) (.int .i64 0) (.int .i64 0)
    obtain ⟨z0, z1, z2, z3, z4, z5, z6, _⟩ := id bz2
    go_wp2_with fail
    refine bodyPost_ret (v := .tuple #[.agg #[.int .i64 0, .int .i64 0, .int .i64 0, .slice none 0 0, .slice none 0 0, .int .i64 0, .int .i64 0], .bool false]) (by simp [results, Tryz.results40, go_sem, z0, z1, z2, z3, z4, z5, z6]) rfl ?_
    exact ⟨_, _, rfl, by rw [HE.out], by rw [HQ.out]; exact RPO.zero _ _, kz2⟩
  | true =>
    have hrc : rdN C = valS C := by unfold rdN; rw [hc]; rfl
    rw [hc, hrc] at q4
    cases hd : numB D with
    | false =>
      have HE : Hid (entB s rq.length = false) := Lib.hid (by rw [hEB, hc, hd]; rfl)
      have HQ : Hid (entQ s rq = zeroPl) := Lib.hid (by unfold entQ; rw [HE.out]; rfl)
      rw [hd] at q5
      clear hEB hEN hc hd hrc
      go_enter Tryz.func40, Tryz.ntmps40
      go_wp2_with fail
      refine (q1.out _).mono ?_
      rintro e w1 ⟨rfl, m1, rfl⟩
      go_wp2_with fail
      refine (q2.out _).mono ?_
      rintro e w2 ⟨rfl, m2, rfl⟩
      go_wp2_with fail
      refine (q3.out _).mono ?_
      rintro e w3 ⟨rfl, hk3⟩
      have hk3 := (drewN_chg' _ _).trans hk3
      go_wp2_with fail
      refine (q4.out _).mono ?_
      rintro e w4 ⟨rfl, m4, rfl⟩
      go_wp2_with fail
      refine (q5.out _).mono ?_
      rintro e w5 ⟨rfl, m5, rfl⟩
      have hch := hk3.trans (drewN_chg' w3 (m4 + m5))
      clear hk3
      have bz := b7.keep hch
      have kz := k0.keep hch
      obtain ⟨s0, s1, s2, s3, s4, s5, s6, sf⟩ := id bz
      have sf0 := sf 0
      have sf1 := sf 1
      have sf2 := sf 2
      have sf3 := sf 3
      have sf4 := sf 4
      have sf5 := sf 5
      have sf6 := sf 6
      clear sf
      have bz2 := bz.put7 (.int .i64 0) (.int .i64 0) (.int .i64 0) (.slice none 0 0) (.slice none 0 0) (.int .i64 0) (.int .i64 0)
      have kz2 := kz.put7 (b := w.heap.size) (fun h => absurd h (Nat.lt_irrefl _)) (.int .i64 0) (.int .i64 0) (.int .i64 0) (.slice none 0 0) (.slice none 0 0) (.int .i64 0) (.int .i64 0)
      obtain ⟨z0, z1, z2, z3, z4, z5, z6, _⟩ := id bz2
      go_wp2_with fail
      refine bodyPost_ret (v := .tuple #[.agg #[.int .i64 0, .int .i64 0, .int .i64 0, .slice none 0 0, .slice none 0 0, .int .i64 0, .int .i64 0], .bool false]) (by simp [results, Tryz.results40, go_sem, z0, z1, z2, z3, z4, z5, z6]) rfl ?_
      exact ⟨_, _, rfl, by rw [HE.out], by rw [HQ.out]; exact RPO.zero _ _, kz2⟩
    | true =>
      have hrd : rdN D = valS D := by unfold rdN; rw [hd]; rfl
      rw [hd, hrd] at q5
      rw [hc, hd, Bool.true_and, Bool.true_and] at hEB
      clear hc hd hrc hrd
      obtain ⟨zp, hzp⟩ : ∃ zp, polOf A = zp := ⟨_, rfl⟩
      obtain ⟨zs, hzs⟩ : ∃ zs, valS C = zs := ⟨_, rfl⟩
      obtain ⟨zf, hzf⟩ : ∃ zf, valS D = zf := ⟨_, rfl⟩
      rw [hzp] at q3
      rw [hzs] at q4
      rw [hzf] at q5
      rw [hzp, hzs, hzf] at hEB hEN
      clear hzp hzs hzf
      cases hsz : (inB zp 1 7 && inB zs 1 6) with
      | false =>
        have HE : Hid (entB s rq.length = false) := Lib.hid (by rw [hEB, hsz]; rfl)
        have HQ : Hid (entQ s rq = zeroPl) := Lib.hid (by unfold entQ; rw [HE.out]; rfl)
        have HSZ := Lib.hid hsz
        clear hEB hEN hsz
        go_enter Tryz.func40, Tryz.ntmps40
        go_wp2_with fail
        refine (q1.out _).mono ?_
        rintro e w1 ⟨rfl, m1, rfl⟩
        go_wp2_with fail
        refine (q2.out _).mono ?_
        rintro e w2 ⟨rfl, m2, rfl⟩
        go_wp2_with fail
        refine (q3.out _).mono ?_
        rintro e w3 ⟨rfl, hk3⟩
        have hk3 := (drewN_chg' _ _).trans hk3
        go_wp2_with fail
        refine (q4.out _).mono ?_
        rintro e w4 ⟨rfl, m4, rfl⟩
        go_wp2_with fail
        refine (q5.out _).mono ?_
        rintro e w5 ⟨rfl, m5, rfl⟩
        have hch := hk3.trans (drewN_chg' w3 (m4 + m5))
        clear hk3
        go_wp2_with fail
        refine (l4Sizes_any _ _ _).mono ?_
        rintro e w' ⟨rfl, rfl⟩
        rw [HSZ.out]
        have bz := b7.keep hch
        have kz := k0.keep hch
        obtain ⟨s0, s1, s2, s3, s4, s5, s6, sf⟩ := id bz
        have sf0 := sf 0
        have sf1 := sf 1
        have sf2 := sf 2
        have sf3 := sf 3
        have sf4 := sf 4
        have sf5 := sf 5
        have sf6 := sf 6
        clear sf
        have bz2 := bz.put7 (.int .i64 0) (.int .i64 0) (.int .i64 0) (.slice none 0 0) (.slice none 0 0) (.int .i64 0) (.int .i64 0)
        have kz2 := kz.put7 (b := w.heap.size) (fun h => absurd h (Nat.lt_irrefl _)) (.int .i64 0) (.int .i64 0) (.int .i64 0) (.slice none 0 0) (.slice none 0 0) (.int .i64 0) (.int .i64 0)
        obtain ⟨z0, z1, z2, z3, z4, z5, z6, _⟩ := id bz2
        go_wp2_with fail
        refine bodyPost_ret (v := .tuple #[.agg #[.int .i64 0, .int .i64 0, .int .i64 0, .slice none 0 0, .slice none 0 0, .int .i64 0, .int .i64 0], .bool false]) (by simp [results, Tryz.results40, go_sem, z0, z1, z2, z3, z4, z5, z6]) rfl ?_
        exact ⟨_, _, rfl, by rw [HE.out], by rw [HQ.out]; exact RPO.zero _ _, kz2⟩
      | true =>
        have HSZ := Lib.hid hsz
        cases hin : inB zf 0 rq.length with
        | false =>
          have HE : Hid (entB s rq.length = false) := Lib.hid (by rw [hEB, hsz, hin]; rfl)
          have HQ : Hid (entQ s rq = zeroPl) := Lib.hid (by unfold entQ; rw [HE.out]; rfl)
          have HIN := Lib.hid hin
          clear hEB hEN hsz hin
          go_enter Tryz.func40, Tryz.ntmps40
          go_wp2_with fail
          refine (q1.out _).mono ?_
          rintro e w1 ⟨rfl, m1, rfl⟩
          go_wp2_with fail
          refine (q2.out _).mono ?_
          rintro e w2 ⟨rfl, m2, rfl⟩
          go_wp2_with fail
          refine (q3.out _).mono ?_
          rintro e w3 ⟨rfl, hk3⟩
          have hk3 := (drewN_chg' _ _).trans hk3
          go_wp2_with fail
          refine (q4.out _).mono ?_
          rintro e w4 ⟨rfl, m4, rfl⟩
          go_wp2_with fail
          refine (q5.out _).mono ?_
          rintro e w5 ⟨rfl, m5, rfl⟩
          have hch := hk3.trans (drewN_chg' w3 (m4 + m5))
          clear hk3
          go_wp2_with fail
          refine (l4Sizes_any _ _ _).mono ?_
          rintro e w' ⟨rfl, rfl⟩
          rw [HSZ.out]
          go_wp2_with fail
          refine (l1In_any _ _ _ _).mono ?_
          rintro e w' ⟨rfl, rfl⟩
          rw [HIN.out]
          have bz := b7.keep hch
          have kz := k0.keep hch
          obtain ⟨s0, s1, s2, s3, s4, s5, s6, sf⟩ := id bz
          have sf0 := sf 0
          have sf1 := sf 1
          have sf2 := sf 2
          have sf3 := sf 3
          have sf4 := sf 4
          have sf5 := sf 5
          have sf6 := sf 6
          clear sf
          have bz2 := bz.put7 (.int .i64 0) (.int .i64 0) (.int .i64 0) (.slice none 0 0) (.slice none 0 0) (.int .i64 0) (.int .i64 0)
          have kz2 := kz.put7 (b := w.heap.size) (fun h => absurd h (Nat.lt_irrefl _)) (.int .i64 0) (.int .i64 0) (.int .i64 0) (.slice none 0 0) (.slice none 0 0) (.int .i64 0) (.int .i64 0)
          obtain ⟨z0, z1, z2, z3, z4, z5, z6, _⟩ := id bz2
          go_wp2_with fail
          refine bodyPost_ret (v := .tuple #[.agg #[.int .i64 0, .int .i64 0, .int .i64 0, .slice none 0 0, .slice none 0 0, .int .i64 0, .int .i64 0], .bool false]) (by simp [results, Tryz.results40, go_sem, z0, z1, z2, z3, z4, z5, z6]) rfl ?_
          exact ⟨_, _, rfl, by rw [HE.out], by rw [HQ.out]; exact RPO.zero _ _, kz2⟩
        | true =>
          have HE : Hid (entB s rq.length = true) := Lib.hid (by rw [hEB, hsz, hin]; rfl)
          have HQ : Hid (entQ s rq = servedP zf zp zs (rq.drop zf.toNat)) := Lib.hid (by unfold entQ entP; rw [HE.out, hEN]; rfl)
          have HIN := Lib.hid hin
          have hzf := inB_iff.1 hin
          have hok : Ok (newC zp zs) := by
            rw [Bool.and_eq_true, inB_iff, inB_iff] at hsz
            exact ok_new hsz.1 hsz.2
          have HP := Lib.hid (fun W h => l12Player_any zf zp zs zf.toNat (by omega) (.slice ra rq.length rc) rq (by omega) W h hok)
          clear hEB hEN hsz hin hok
          go_enter Tryz.func40, Tryz.ntmps40
          go_wp2_with fail
          refine (q1.out _).mono ?_
          rintro e w1 ⟨rfl, m1, rfl⟩
          go_wp2_with fail
          refine (q2.out _).mono ?_
          rintro e w2 ⟨rfl, m2, rfl⟩
          go_wp2_with fail
          refine (q3.out _).mono ?_
          rintro e w3 ⟨rfl, hk3⟩
          have hk3 := (drewN_chg' _ _).trans hk3
          go_wp2_with fail
          refine (q4.out _).mono ?_
          rintro e w4 ⟨rfl, m4, rfl⟩
          go_wp2_with fail
          refine (q5.out _).mono ?_
          rintro e w5 ⟨rfl, m5, rfl⟩
          have hch := hk3.trans (drewN_chg' w3 (m4 + m5))
          clear hk3
          have bz := b7.keep hch
          have kz := k0.keep hch
          have hrz := hr1.keep hch
          have hg3 : w.heap.size < w3.heap.size := bz.lt
          go_wp2_with fail
          refine (l4Sizes_any _ _ _).mono ?_
          rintro e w' ⟨rfl, rfl⟩
          rw [HSZ.out]
          go_wp2_with fail
          refine (l1In_any _ _ _ _).mono ?_
          rintro e w' ⟨rfl, rfl⟩
          rw [HIN.out]
          go_wp2_with fail
          refine (HP.out _ hrz).mono ?_
          rintro e w6 ⟨v6, rfl, r6, k6⟩
          have bz := bz.keep k6
          have kz := kz.keep k6
          have hlt6 := bz.lt
          obtain ⟨z, hz⟩ : ∃ z, servedP zf zp zs (rq.drop zf.toNat) = z := ⟨_, rfl⟩
          rw [hz] at r6 HQ
          clear hz hrz hch
          obtain ⟨pv, mv, rfl, hxp, hxm, hxa⟩ := r6
          obtain ⟨oa, on, oc, rfl⟩ := hxp.shape
          obtain ⟨qa, qn, qc, rfl⟩ := hxm.shape
          have hpb : ∀ q, own (.slice oa on oc) q → q ≠ w.heap.size := fun q hq e => by have := (hxp.lt q hq).1; simp at this; omega
          have hmb : ∀ q, own (.slice qa qn qc) q → q ≠ w.heap.size := fun q hq e => by have := (hxm.lt q hq).1; simp at this; omega
          have hxp2 := (hxp.put7 (b := w.heap.size) hpb (.int .i64 z.frm) (.int .i64 z.ca.pol) (.int .i64 z.ca.size) (.slice oa on oc) (.slice qa qn qc) (.int .i64 z.ca.hand) (.int .i64 z.fa)).weak (base' := w.heap.size) (by simp; omega)
          have hxm2 := (hxm.put7 (b := w.heap.size) hmb (.int .i64 z.frm) (.int .i64 z.ca.pol) (.int .i64 z.ca.size) (.slice oa on oc) (.slice qa qn qc) (.int .i64 z.ca.hand) (.int .i64 z.fa)).weak (base' := w.heap.size) (by simp; omega)
          obtain ⟨s0, s1, s2, s3, s4, s5, s6, sf⟩ := id bz
          have sf0 := sf 0
          have sf1 := sf 1
          have sf2 := sf 2
          have sf3 := sf 3
          have sf4 := sf 4
          have sf5 := sf 5
          have sf6 := sf 6
          clear sf
          have bz2 := bz.put7 (.int .i64 z.frm) (.int .i64 z.ca.pol) (.int .i64 z.ca.size) (.slice oa on oc) (.slice qa qn qc) (.int .i64 z.ca.hand) (.int .i64 z.fa)
          have kz2 := kz.put7 (b := w.heap.size) (fun h => absurd h (Nat.lt_irrefl _)) (.int .i64 z.frm) (.int .i64 z.ca.pol) (.int .i64 z.ca.size) (.slice oa on oc) (.slice qa qn qc) (.int .i64 z.ca.hand) (.int .i64 z.fa)
          obtain ⟨z0, z1, z2, z3, z4, z5, z6, _⟩ := id bz2
          clear hxp hxm hpb hmb
          go_wp2_with fail
          refine bodyPost_ret (v := .tuple #[.agg #[.int .i64 z.frm, .int .i64 z.ca.pol, .int .i64 z.ca.size, .slice oa on oc, .slice qa qn qc, .int .i64 z.ca.hand, .int .i64 z.fa], .bool true]) (by simp [results, Tryz.results40, go_sem, z0, z1, z2, z3, z4, z5, z6]) rfl ?_
          exact ⟨_, _, rfl, by rw [HE.out], by rw [HQ.out]; exact ⟨_, _, rfl, hxp2, hxm2, hxa⟩, kz2⟩
end Go.Proofs.YtndhijckbponkaaGreatDoor
