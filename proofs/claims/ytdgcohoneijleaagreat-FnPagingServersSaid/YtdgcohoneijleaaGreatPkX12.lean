import Derived.Test.YtdgcohoneijleaaGreatPkX11
import Derived.Test.YtdgcohoneijleaaGreatPkX3
import Derived.Test.YtdgcohoneijleaaGreatPkX2
import Derived.Test.YtdgcohoneijleaaGreatS
import Derived.Test.YtdgcohoneijleaaGreatXr
import Derived.Test.YtdgcohoneijleaaGreatPkX8
/- runs of a cache: plain; NewCache -/
namespace Go.Proofs.YtdgcohoneijleaaGreat
open Go.RowKit

theorem good_new {n p k : Int} {l : List Int} (h : askedB n p k l = true) : goodC n (newC p k) = true := by
  simp only [askedB, Bool.and_eq_true, decide_eq_true_eq, inB_iff] at h
  rw [goodC_iff]
  refine ⟨h.2.1.1, h.1.1, h.1.2, ?_, fun a ha => ?_, List.Pairwise.nil, ?_, ?_⟩
  · show ((0 : Nat) : Int) ≤ k
    omega
  · cases ha
  · unfold marksB
    simp [newC]
  · unfold handB
    simp [newC]
    try omega
set_option maxRecDepth 100000 in
set_option maxHeartbeats 1000000 in
theorem implNewCache_any (n p k : Int) (w : World) (hn : inB n 1 8 = true) (hp : inB p 1 7 = true) (hk : inB k 1 6 = true) :
    Calls Tryz.prog 13 #[.int .i64 n, .int .i64 p, .int .i64 k] w (Ret2 fun v0 v1 w' => v0 = .agg #[.int .i64 p, .int .i64 k, .slice none 0 0, .slice none 0 0, .int .i64 0] ∧ v1 = .bool true ∧ Chg No w w') := by
  have k0 := (Chg.refl No w).alloc (.cells #[.int .i64 0, .int .i64 0, .slice none 0 0, .slice none 0 0, .int .i64 0] 42)
  have bx := Box.new w (.int .i64 0) (.int .i64 0) (.slice none 0 0) (.slice none 0 0) (.int .i64 0) 42
  have HN := Lib.hid hn
  have HP := Lib.hid hp
  have HK := Lib.hid hk
  clear hn hp hk
  go_enter Tryz.func13, Tryz.ntmps13
  go_wp2_with fail
  refine (isItems_any _ _).mono ?_
  rintro e w' ⟨rfl, rfl⟩
  rw [HN.out]
  go_wp2_with fail
  refine (isPolicy_any _ _).mono ?_
  rintro e w' ⟨rfl, rfl⟩
  rw [HP.out]
  go_wp2_with fail
  refine (isSize_any _ _).mono ?_
  rintro e w' ⟨rfl, rfl⟩
  rw [HK.out]
  go_wp2_with fail
  refine bodyPost_ret (v := .tuple #[.agg #[.int .i64 p, .int .i64 k, .slice none 0 0, .slice none 0 0, .int .i64 0], .bool true]) (by simp [results, Tryz.results13, go_sem]) rfl ?_
  exact ⟨_, _, rfl, rfl, rfl, (Chg.refl No w).alloc _⟩
end Go.Proofs.YtdgcohoneijleaaGreat

/- FnPagingServers: what its parts answer (plain) -/
namespace Go.Proofs.YtdgcohoneijleaaGreat
open Go.RowKit

theorem firstL_len (k : Nat) : (firstL k).length = k := by simp [firstL]
theorem firstL_succ (k : Nat) : firstL (k + 1) = firstL k ++ [(k : Int)] := by unfold firstL; rw [List.range_succ, List.map_append]; rfl
/-- what the law compares: least, cost, fewest, faults -/
structure PgS (N K : Nat) (B Q : List Int) (least cost few fau : Int) : Prop where
  serv : servB (uniT N 1) B Q = true
  join : joinB N B Q = true
  pag : pagB K N (B ++ Q) = true
  ok : okR N (newC 1 K) (B ++ Q) = true
  hl : leastW (uniT N 1).length B.length (dD (uniT N 1)) B Q = least
  hc : (rnT (uniT N 1).length B.length (dD (uniT N 1)) B Q Q.length).2 = cost
  hf : fewV K N (B ++ Q) = few
  hn : cntV N (newC 1 K) (B ++ Q) = fau
  e1 : least = few - K
  e2 : least ≤ cost
  e3 : least ≤ fau - K
  b1 : 0 ≤ few ∧ few ≤ 60
  b2 : 0 ≤ fau ∧ fau ≤ 60
theorem pgServ {N K : Nat} {Q : List Int} (hN : 2 ≤ N ∧ N ≤ 6) (hK : 1 ≤ K ∧ K ≤ 3) (hKN : K ≤ N) (hQ : Pts N Q) (hQl : Q.length ≤ 40) : ∃ least cost few fau, PgS N K (firstL K) Q least cost few fau := by
  have hlen := firstL_len K
  obtain ⟨hf, _⟩ := firstL_facts N K hKN
  have hm := uniT_met (n := N) (d := 1) (by omega) (by omega)
  have hU := uniT_len N 1
  have hfp := (cfs_mem.1 hf).2.1
  have hb : ∀ l : List Int, Pts N l → belowB N l = true := fun l hl => List.all_eq_true.2 fun x hx => inB_iff.2 (by have := hl x hx; omega)
  have happ : Pts N (firstL K ++ Q) := fun x hx => (List.mem_append.1 hx).elim (hfp x) (hQ x)
  have hn8 : inB (N : Int) 1 8 = true := inB_iff.2 (by omega)
  have hpag : pagB K N (firstL K ++ Q) = true := by
    unfold pagB reqB
    rw [hn8, inB_iff.2 (by omega : (1 : Int) ≤ K ∧ (K : Int) ≤ 6), hb _ happ, decide_eq_true (by rw [List.length_append, hlen]; omega)]; rfl
  have hask : askedB N 1 K (firstL K ++ Q) = true := (pag_asked (by omega)).trans hpag
  have hok : okR N (newC 1 K) (firstL K ++ Q) = true := by
    unfold okR
    rw [good_new hask]
    unfold pagB at hpag
    simp only [Bool.and_eq_true] at hpag
    rw [hpag.2]; rfl
  have hfew := fewN_ok hpag
  have hfv : fewV K N (firstL K ++ Q) = fewN K N (firstL K ++ Q) := by unfold fewV; rw [if_pos hpag]
  have hcv : cntV N (newC 1 K) (firstL K ++ Q) = ((places (newC 1 K) (firstL K ++ Q)).length : Int) := by unfold cntV; rw [if_pos hok]
  have hKt : (K : Int).toNat = K := by omega
  have hps := paging_servers (n := N) hK (by omega) hKN hQ (by omega) (by have := hfew.2; rw [hKt] at this; exact this)
  have huni := uni_met N
  have hd := metP_d hm
  rw [hU] at hd
  have hag := leastW_ag (k := K) (uniT_ag N) hK hd.1 hd.2 huni.1 huni.2 (a := firstL K) ⟨hlen, hfp⟩ Q
  have hrun := run_least (n := N) (k := K) hK hd.1 hd.2 (by omega) hf hQ (by omega)
  have hle := few_le (p := 1) hpag (by omega)
  have hfb := few_bound hpag
  have hnf := nfC_le (firstL K ++ Q) (newC 1 K)
  have hpn := places_nf (firstL K ++ Q) (newC 1 K)
  refine ⟨_, _, _, _, ⟨?_, ?_, hpag, hok, rfl, rfl, rfl, rfl, ?_, ?_, ?_, ?_, ?_⟩⟩
  · exact servB_yes hm (by rw [hlen]; exact hK) (by rw [hU, hlen]; exact hf) (by rw [hU]; exact hQ) (by omega)
  · unfold joinB
    rw [hn8, hb _ hfp, hb _ hQ, decide_eq_true (by rw [hlen]; omega), decide_eq_true (by omega), decide_eq_true (by rw [hlen]; omega)]; rfl
  · rw [hU, hlen, hag, hps, hfv]
    have := hfew.1
    omega
  · rw [hU, hlen]; exact hrun
  · rw [hU, hlen, hag, hps, hcv]
    have := hfew.1
    omega
  · rw [hfv]; exact hfb
  · rw [hcv]
    rw [List.length_append, hlen] at hnf
    omega
end Go.Proofs.YtdgcohoneijleaaGreat
