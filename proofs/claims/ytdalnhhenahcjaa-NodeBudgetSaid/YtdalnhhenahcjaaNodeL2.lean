/- NodeBudget: the walk. -/
import Derived.Test.YtdalnhhenahcjaaNodeL1
import Derived.Test.YtdalnhhenahcjaaNodeN
namespace Go.Proofs.Ytdalnhhenahcjaa
open Go.RowKit HP NP
theorem newB (m n : Nat) (hm : m ≤ 256) (h2 : 2 ≤ n) (hn : n ≤ 1048576) : Bst (newS m n) m n 0 0 0 := by
  refine ⟨newS_wf m n hm h2 hn, rfl, rfl, fun k hk => ?_, ⟨rfl, rfl⟩, Nat.le_refl _, rfl, rfl⟩
  rw [if_neg (by omega)]
  exact nd_ge (by simpa [newS, base2] using hk)
set_option maxRecDepth 100000 in
set_option maxHeartbeats 4000000 in
theorem nodeBudget_walk (w : World) (a : Int) (_wa : (Lit.int .i64 a).wf = true) (b : Int) (_wb : (Lit.int .i64 b).wf = true) : Calls Try.prog 11 #[.int .i64 a, .int .i64 b] w (Fine w) := by
  obtain ⟨A, hA, hA2⟩ := i64_and_bd a 65535 (by decide)
  obtain ⟨C, hC, hC2⟩ := i64_and_bd b 65535 (by decide)
  go_enter Try.func11, Try.ntmps11
  go_wp2_with fail
  obtain ⟨N, hN, hN2, hN3⟩ : ∃ N : Nat, wrap64 (2 + (bits .and .i64 a 65535).tmod 40) = (N : Int) ∧ 2 ≤ N ∧ N ≤ 41 := by
    rw [show bits .and .i64 a 65535 = (A : Int) from hA]
    refine ⟨2 + A % 40, ?_, by omega, by omega⟩
    rw [Int.tmod_eq_emod_of_nonneg (by omega), w64 _ (by omega) (by omega)]; omega
  obtain ⟨M, hM, hM1, hM2⟩ : ∃ M : Nat, wrap64 (1 + (bits .and .i64 b 65535).tmod 40) = (M : Int) ∧ 1 ≤ M ∧ M ≤ 40 := by
    rw [show bits .and .i64 b 65535 = (C : Int) from hC]
    refine ⟨1 + C % 40, ?_, by omega, by omega⟩
    rw [Int.tmod_eq_emod_of_nonneg (by omega), w64 _ (by omega) (by omega)]; omega
  rw [hN, hM]
  clear hN hM hA hC hA2 hC2
  obtain ⟨L, hL⟩ : ∃ L : Nat, (N : Int) - 2 = (L : Int) := ⟨N - 2, by omega⟩
  have hNL : N = L + 2 := by omega
  have HNL := Lib.hid hNL
  clear hNL
  refine (nnew_yes w w.heap.size (Nat.le_refl _) M N (by omega) hN2 (by omega)).mono ?_
  rintro e w1 ⟨p, rfl, hs1, hb1, _⟩
  have HS1 := Lib.hid hs1; have HB1 := Lib.hid hb1
  have HN0 := Lib.hid (newB M N (by omega) hN2 (by omega))
  clear hs1 hb1
  obtain ⟨J, hJ⟩ : ∃ J, J = min L M := ⟨_, rfl⟩
  have HJ := Lib.hid hJ
  clear hJ
  go_wp2_with fail
  go_loopg [9] 2 (fun m x wr => ∃ (r : Nat) (S : NS), m + r = 2 ∧ x = .int .i64 (r : Int) ∧ Sto wr w.heap.size p S ∧ Bst S M N 0 (r * J) r ∧ Below w.heap.size w wr)
  case atStart => exact ⟨0, _, rfl, rfl, HS1.out, by rw [Nat.zero_mul]; exact HN0.out, HB1.out⟩
  case round =>
    obtain ⟨r, S, hm, rfl, hs, hbst, hb⟩ := hrel
    have HM := Lib.hid hm; have HS := Lib.hid hs; have HBS := Lib.hid hbst; have HB := Lib.hid hb
    clear hm hs hbst hb
    obtain ⟨wo, hwo⟩ : ∃ wo, wo = wr := ⟨_, rfl⟩
    rw [← hwo] at HS HB ⊢
    clear hwo
    by_cases hr : r < 2
    · have dr : decide ((r : Int) < 2) = true := decide_eq_true (by omega)
      go_wp2_with fail
      go_loopg [10] M (fun m x wr => ∃ (v : Nat) (S' : NS), m + v = M ∧ x = .int .i64 (v : Int) ∧ Sto wr w.heap.size p S' ∧ Bst S' M N (min v L) (r * J + min v L) r ∧ Below w.heap.size w wr)
      case atStart => exact ⟨0, S, rfl, rfl, HS.out, by rw [Nat.zero_min]; exact HBS.out, HB.out⟩
      case round =>
        obtain ⟨v, S', hm2, rfl, hs2, hbst2, hb2⟩ := hrel
        have HM2 := Lib.hid hm2; have HS2 := Lib.hid hs2; have HBS2 := Lib.hid hbst2; have HB2 := Lib.hid hb2
        have hsz := hb2.size
        clear hm2 hs2 hbst2 hb2
        by_cases hv : v < M
        · by_cases hvL : v < L
          · have hbst := HBS2.out
            rw [Nat.min_eq_left (Nat.le_of_lt hvL)] at hbst
            obtain ⟨S3, hmk, hb3⟩ := hbst.more hv (by have := HNL.out; omega)
            have HMK := Lib.hid hmk; have HB3 := Lib.hid hb3
            clear hbst hmk hb3
            go_wp2_with fail
            refine (nmk_ok _ w.heap.size p S' HS2.out hsz (v : Int) 0 1).mono ?_
            rintro e w3 ⟨rfl, hs3, hk3⟩
            rw [HMK.out] at hs3 ⊢
            have HS3 := Lib.hid hs3; have HB4 := Lib.hid (HB2.out.trans (hk3.low hsz))
            clear hs3 hk3
            go_wp2_with fail
            go_roundg (M - (v + 1))
            case measure => have := HM2.out; omega
            case rel =>
              refine ⟨v + 1, S3, by have := HM2.out; omega, by go_num, HS3.out, ?_, HB4.out⟩
              rw [Nat.min_eq_left (show v + 1 ≤ L by omega)]; exact HB3.out
          · have hvL' : L ≤ v := by omega
            have hbst := HBS2.out
            rw [Nat.min_eq_right hvL'] at hbst
            have hmk := hbst.full hv hvL' (by have := HNL.out; omega)
            have HMK := Lib.hid hmk
            clear hbst hmk hvL
            go_wp2_with fail
            refine (nmk_ok _ w.heap.size p S' HS2.out hsz (v : Int) 0 1).mono ?_
            rintro e w3 ⟨rfl, hs3, hk3⟩
            rw [HMK.out] at hs3 ⊢
            have HS3 := Lib.hid hs3; have HB4 := Lib.hid (HB2.out.trans (hk3.low hsz))
            clear hs3 hk3
            go_wp2_with fail
            go_roundg (M - (v + 1))
            case measure => have := HM2.out; omega
            case rel =>
              refine ⟨v + 1, S', by have := HM2.out; omega, by go_num, HS3.out, ?_, HB4.out⟩
              have := HBS2.out
              rw [Nat.min_eq_right hvL'] at this
              rw [Nat.min_eq_right (show L ≤ v + 1 by omega)]; exact this
        · have hvM : v = M := by have := HM2.out; omega
          subst hvM
          have hbst := HBS2.out
          rw [Nat.min_comm, ← HJ.out] at hbst
          have HBJ := Lib.hid hbst
          clear hbst
          rcases Nat.lt_or_ge (v + 2) N with hc | hc
          · have hc' : (v : Int) + 2 < (N : Int) := by omega
            have hvL : v < L := by omega
            have hJv : J = v := by rw [HJ.out]; omega
            have HJV := Lib.hid hJv
            clear hc hJv
            go_wp2_with fail
            refine (nlen_ok _ w.heap.size p S' HS2.out).mono ?_
            rintro e w3 ⟨rfl, rfl⟩
            rw [HBJ.out.cnt, show ((2 + J : Nat) : Int) = (v : Int) + 2 by have := HJV.out; omega]
            go_wp2_with fail
            refine (nsweep_ok _ w.heap.size p S' HS2.out hsz).mono ?_
            rintro e w4 ⟨sm, hmt, rfl, hs4, hk4⟩
            obtain ⟨hb4, hg4⟩ := HBJ.out.sweep hmt
            rw [hg4, show (J : Int) = (v : Int) by have := HJV.out; omega]
            have HS4 := Lib.hid hs4; have HB4 := Lib.hid hb4; have HBE := Lib.hid (HB2.out.trans (hk4.low hsz))
            clear hs4 hb4 hk4 hg4 hmt
            go_wp2_with fail
            refine (nlen_ok _ w.heap.size p _ HS4.out).mono ?_
            rintro e w5 ⟨rfl, rfl⟩
            rw [HB4.out.cnt]
            go_wp2_with fail
            go_roundg (2 - (r + 1))
            case measure => have := HM.out; omega
            case rel => exact ⟨r + 1, _, by have := HM.out; omega, by go_num, HS4.out, by have := HB4.out; rwa [Nat.succ_mul], HBE.out⟩
          · have hc' : (N : Int) ≤ (v : Int) + 2 := by omega
            have hvL : L ≤ v := by omega
            have hJv : J = L := by rw [HJ.out]; omega
            have hJN : J + 2 = N := by omega
            have HJN := Lib.hid hJN; have HJV := Lib.hid hJv
            clear hc hJN hJv
            go_wp2_with fail
            refine (nlen_ok _ w.heap.size p S' HS2.out).mono ?_
            rintro e w3 ⟨rfl, rfl⟩
            rw [HBJ.out.cnt, show ((2 + J : Nat) : Int) = (N : Int) by have := HJN.out; have := HJV.out; omega]
            go_wp2_with fail
            refine (nsweep_ok _ w.heap.size p S' HS2.out hsz).mono ?_
            rintro e w4 ⟨sm, hmt, rfl, hs4, hk4⟩
            obtain ⟨hb4, hg4⟩ := HBJ.out.sweep hmt
            rw [hg4, show (J : Int) = (L : Int) by have := HJN.out; have := HJV.out; omega]
            have HS4 := Lib.hid hs4; have HB4 := Lib.hid hb4; have HBE := Lib.hid (HB2.out.trans (hk4.low hsz))
            clear hs4 hb4 hk4 hg4 hmt
            go_wp2_with fail
            refine (nlen_ok _ w.heap.size p _ HS4.out).mono ?_
            rintro e w5 ⟨rfl, rfl⟩
            rw [HB4.out.cnt]
            go_wp2_with fail
            go_roundg (2 - (r + 1))
            case measure => have := HM.out; omega
            case rel => exact ⟨r + 1, _, by have := HM.out; omega, by go_num, HS4.out, by have := HB4.out; rwa [Nat.succ_mul], HBE.out⟩
    · have hr2 : r = 2 := by have := HM.out; omega
      subst hr2
      rcases Nat.lt_or_ge M L with hc | hc
      · skip
        have hmd : wr64 S.made = 2 * (M : Int) := by
          have hj := HJ.out
          rw [HBS.out.made]
          unfold wr64
          rw [w64 _ (by omega) (by omega)]; omega
        have hsw : wr64 S.sweeps = 2 := by rw [HBS.out.sweeps]; simp [wr64, wrap64]
        have HMD := Lib.hid hmd; have HSW := Lib.hid hsw
        clear hmd hsw
        go_wp2_with fail
        refine (nmade_ok _ w.heap.size p S HS.out).mono ?_
        rintro e w3 ⟨rfl, rfl⟩
        rw [HMD.out]
        go_wp2_with fail
        refine (nsweeps_ok _ w.heap.size p S HS.out).mono ?_
        rintro e w3 ⟨rfl, rfl⟩
        rw [HSW.out]
        go_wp2_with fail
        refine (awake03 wo).mono ?_
        rintro e w6 ⟨rfl, hb6⟩
        go_wp2_with fail
        go_ret
        exact ⟨rfl, HB.out.trans (hb6.mono HB.out.size)⟩
      · skip
        have hmd : wr64 S.made = 2 * (L : Int) := by
          have hj := HJ.out
          rw [HBS.out.made]
          unfold wr64
          rw [w64 _ (by omega) (by omega)]; omega
        have hsw : wr64 S.sweeps = 2 := by rw [HBS.out.sweeps]; simp [wr64, wrap64]
        have HMD := Lib.hid hmd; have HSW := Lib.hid hsw
        clear hmd hsw
        go_wp2_with fail
        refine (nmade_ok _ w.heap.size p S HS.out).mono ?_
        rintro e w3 ⟨rfl, rfl⟩
        rw [HMD.out]
        go_wp2_with fail
        refine (nsweeps_ok _ w.heap.size p S HS.out).mono ?_
        rintro e w3 ⟨rfl, rfl⟩
        rw [HSW.out]
        go_wp2_with fail
        refine (awake03 wo).mono ?_
        rintro e w6 ⟨rfl, hb6⟩
        go_wp2_with fail
        go_ret
        exact ⟨rfl, HB.out.trans (hb6.mono HB.out.size)⟩
end Go.Proofs.Ytdalnhhenahcjaa
