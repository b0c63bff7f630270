/- CountSat: the walk. -/
import Derived.Test.YtoegenacjhmicaaCountZ
namespace Go.Proofs.Ytoegenacjhmicaa
open Go.RowKit HP NP
set_option maxRecDepth 100000 in
set_option maxHeartbeats 3200000 in
theorem countSat_walk (w : World) (z : Int) (_zw : (Lit.int .i64 z).wf = true) : Calls Try.prog 8 #[.int .i64 z] w (Fine6 w) := by
  obtain ⟨X, hX, hX16⟩ := low6 z
  have hal : ∀ (W : World) (o : Obj), Below W.heap.size W (W.alloc o) := fun W o => (Below.refl _ _).alloc (Nat.le_refl _) o
  have HAL := Lib.hid hal
  clear hal
  go_enter Try.func8, Try.ntmps8
  go_wp2_with fail
  refine (begun6 w).mono ?_
  rintro e w1 ⟨p, rfl, hs1⟩
  have HS1 := Lib.hid hs1
  clear hs1
  go_wp2_with fail
  refine (made6 HS1.out hX16).mono ?_
  rintro e w2 ⟨S, k, rfl, hs2, hd2⟩
  have HS2 := Lib.hid hs2; have HD2 := Lib.hid hd2
  clear hs2 hd2
  go_wp2_with fail
  refine (trues6 w2 X hX16).mono ?_
  rintro e w3 ⟨u3, rfl, hr3, hb3⟩
  obtain ⟨ua, uc, rfl⟩ := own_shape hr3
  have HU3 := Lib.hid (own_iV hr3)
  have HS3 := Lib.hid (HS2.out.below hb3)
  obtain ⟨T, hT⟩ : ∃ T, numT X = T := ⟨_, rfl⟩
  have hT16 : T ≤ 16 := by rw [← hT]; exact numT_le X
  have HTL : Hid ((nZ (truesL X)).length = T) := Lib.hid (by rw [← hT, ← truesL_len]; simp [nZ])
  rw [truesL_len, hT]
  have HT := Lib.hid hT
  clear hr3 hb3 hT
  go_wp2_with fail
  refine (four6 w3).mono ?_
  rintro e w4 ⟨rfl, hw4⟩
  have hb4 : Below w3.heap.size w3 w4 := by rw [hw4]; exact HAL.out _ _
  have HS4 := Lib.hid (HS3.out.below hb4)
  have HC4 := Lib.hid (sat4_ok HS4.out HD2.out four_ord (a := some ⟨w3.heap.size, 0, none⟩) (c := 4) (by rw [hw4]; exact Cells.lit w3 #[.int .i64 0, .int .i64 1, .int .i64 2, .int .i64 3] 3))
  rw [HT.out] at HC4
  have HU4 := Lib.hid (HU3.out.below hb4)
  clear hw4 hb4
  go_wp2_with fail
  refine HC4.out.mono ?_
  rintro e w5 ⟨rfl, hb5⟩
  have HS5 := Lib.hid (HS4.out.below hb5); have HU5 := Lib.hid (HU4.out.below hb5)
  clear hb5
  go_wp2_with fail
  refine (four6 w5).mono ?_
  rintro e w6 ⟨rfl, hw6⟩
  have hb6 : Below w5.heap.size w5 w6 := by rw [hw6]; exact HAL.out _ _
  have HS6 := Lib.hid (HS5.out.below hb6); have HU6 := Lib.hid (HU5.out.below hb6)
  have HC6 := Lib.hid (each4_ok HS6.out HD2.out four_ord (a := some ⟨w5.heap.size, 0, none⟩) (c := 4) (by rw [hw6]; exact Cells.lit w5 #[.int .i64 0, .int .i64 1, .int .i64 2, .int .i64 3] 3) (T : Int) (by omega) (by omega))
  rw [HT.out, four_each HS6.out HD2.out, HTL.out] at HC6
  clear hw6 hb6
  go_wp2_with fail
  refine HC6.out.mono ?_
  rintro e w7 ⟨hb7, ⟨h, _⟩ | ⟨_, y7, rfl, hr7⟩⟩
  · omega
  obtain ⟨ya, yc, rfl⟩ := own_shape hr7
  have HS7 := Lib.hid (HS6.out.below hb7)
  have HSI : Hid (Calls Try.prog 24 #[.slice ya T yc, .slice ua T uc] w7 (Tells true w7)) := Lib.hid (by
    have h := sameInts_ok w7 ya ua yc uc (nZ (truesL X)) (nZ (truesL X)) (by rw [HTL.out]; unfold maxLen; omega) (own_zV hr7) (by rw [← iV_nZ]; exact HU6.out.below hb7)
    rw [HTL.out, beq_self_eq_true] at h
    exact h)
  have hbe : ((T : Int) != (T : Int)) = false := by simp
  clear hb7 hr7
  by_cases hT0 : T = 0
  · have d0 : ((T : Int) == 0) = true := by rw [beq_iff_eq]; omega
    clear hT0
    go_wp2_with fail
    refine HSI.out.mono ?_
    rintro e w8 ⟨rfl, q, hw8⟩
    have HS8 := Lib.hid (HS7.out.below (show Below w7.heap.size w7 w8 by rw [hw8]; exact bdN' _ _))
    clear hw8
    go_wp2_with fail
    refine (awake6 w8).mono ?_
    rintro e w9 ⟨rfl, hb9⟩
    have HS9 := Lib.hid (HS8.out.below hb9)
    clear hb9
    go_wp2_with fail
    go_ret
    exact ⟨rfl, HS9.out.bel⟩
  · have d0 : ((T : Int) == 0) = false := by rw [beq_eq_false_iff_ne]; omega
    obtain ⟨tm, htm⟩ : ∃ tm : Int, (T : Int) - 1 = tm := ⟨_, rfl⟩
    have hw64 : wrap64 ((T : Int) - 1) = tm := by rw [← htm]; exact w64 _ (by omega) (by omega)
    have hwi : IntKind.i64.wrap ((T : Int) - 1) = tm := by rw [IntKind.wrap_i64]; omega
    have htm0 : 0 ≤ tm := by omega
    have htm1 : tm < (T : Int) := by omega
    clear hT0 htm
    go_wp2_with fail
    refine HSI.out.mono ?_
    rintro e w8 ⟨rfl, q, hw8⟩
    have HS8 := Lib.hid (HS7.out.below (show Below w7.heap.size w7 w8 by rw [hw8]; exact bdN' _ _))
    clear hw8
    go_wp2_with fail
    refine (four6 w8).mono ?_
    rintro e w9 ⟨rfl, hw9⟩
    have HS9 := Lib.hid (HS8.out.below (show Below w8.heap.size w8 w9 by rw [hw9]; exact HAL.out _ _))
    have HC9 := Lib.hid (each4_ok HS9.out HD2.out four_ord (a := some ⟨w8.heap.size, 0, none⟩) (c := 4) (by rw [hw9]; exact Cells.lit w8 #[.int .i64 0, .int .i64 1, .int .i64 2, .int .i64 3] 3) tm htm0 (by omega))
    rw [HT.out] at HC9
    clear hw9
    go_wp2_with fail
    refine HC9.out.mono ?_
    rintro e w10 ⟨hb10, ⟨_, rfl⟩ | ⟨h, _⟩⟩
    · have HS10 := Lib.hid (HS9.out.below hb10)
      clear hb10
      go_wp2_with fail
      refine (awake6 w10).mono ?_
      rintro e w11 ⟨rfl, hb11⟩
      have HS11 := Lib.hid (HS10.out.below hb11)
      clear hb11
      go_wp2_with fail
      go_ret
      exact ⟨rfl, HS11.out.bel⟩
    · omega
end Go.Proofs.Ytoegenacjhmicaa
