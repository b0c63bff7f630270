/- The contracts of osier/osierref01 at numbers: they return what the plain functions of XArith say, and leave the world as it was. -/
import Derived.Test.YtfijnfokfkpbpaaArith
namespace Go.Proofs.Ytfijnfokfkpbpaa
open Go.RowKit

theorem rcount_ok (n : Int) (w : World) : Calls Try.prog 26 #[.int .i64 n] w fun e w' => e = .returned (.int .i64 (cnt n)) ∧ w = w' := by
  rcases (by omega : n < 0 ∨ 0 ≤ n ∧ n ≤ 4611686018427387903 ∨ 4611686018427387903 < n) with h | ⟨h, h'⟩ | h
  · have hc := cnt_lo n h
    go_enter Try.func26, Try.ntmps26
    go_wp2
    all_goals (first | (exfalso; omega) | (go_ret; exact ⟨ret_int (by omega), rfl⟩))
  · have hc := cnt_in n h h'
    go_enter Try.func26, Try.ntmps26
    go_wp2
    all_goals (first | (exfalso; omega) | (go_ret; exact ⟨ret_int (by omega), rfl⟩))
  · have hc := cnt_hi n h
    go_enter Try.func26, Try.ntmps26
    go_wp2
    all_goals (first | (exfalso; omega) | (go_ret; exact ⟨ret_int (by omega), rfl⟩))

set_option maxHeartbeats 400000 in
theorem radd_ok (a b : Int) (w : World) : Calls Try.prog 13 #[.int .i64 a, .int .i64 b] w fun e w' => e = .returned (.int .i64 (addS a b)) ∧ w = w' := by
  have ha := cnt_bd a
  have hb := cnt_bd b
  by_cases hlt : 4611686018427387903 - cnt b < cnt a
  all_goals
    go_enter Try.func13, Try.ntmps13
    go_wp2_with (go_at_call 26; refine (rcount_ok _ _).mono ?_; rintro e w' ⟨rfl, rfl⟩)
    all_goals (first | (exfalso; omega) | (go_ret; exact ⟨ret_int (by unfold addS; omega), rfl⟩))

set_option maxHeartbeats 400000 in
theorem rmul_ok (a b : Int) (w : World) : Calls Try.prog 15 #[.int .i64 a, .int .i64 b] w fun e w' => e = .returned (.int .i64 (mulS a b)) ∧ w = w' := by
  have ha := cnt_bd a
  have hb := cnt_bd b
  by_cases hz : cnt b = 0
  · have hm : mulS a b = 0 := by unfold mulS; rw [hz]; omega
    have HM := Lib.hid hm; clear hm
    have hz1 : decide (0 < cnt b) = false := by simp; omega
    have Hz := Lib.hid hz; clear hz
    go_enter Try.func15, Try.ntmps15
    go_wp2_with (go_at_call 26; refine (rcount_ok _ _).mono ?_; rintro e w' ⟨rfl, rfl⟩)
    all_goals (first | (exfalso; have := Hz.out; omega) | (go_ret; exact ⟨ret_int (by rw [HM.out, Hz.out]; simp [go_sem, wrap64]), rfl⟩))
  · have hz1 : 0 < cnt b := by omega
    by_cases hlt : 4611686018427387903 / cnt b < cnt a
    · have hm := mul_hi (cnt b) (cnt a) (by omega) hlt
      rw [Int.mul_comm] at hm
      go_enter Try.func15, Try.ntmps15
      go_wp2_with (go_at_call 26; refine (rcount_ok _ _).mono ?_; rintro e w' ⟨rfl, rfl⟩)
      all_goals (first | (exfalso; omega) | (go_ret; exact ⟨ret_int (by unfold mulS; omega), rfl⟩))
    · have hm := mul_lo (cnt b) (cnt a) (by omega) (by omega)
      rw [Int.mul_comm] at hm
      have hn := mul_nn (cnt a) (cnt b) (by omega) (by omega)
      go_enter Try.func15, Try.ntmps15
      go_wp2_with (go_at_call 26; refine (rcount_ok _ _).mono ?_; rintro e w' ⟨rfl, rfl⟩)
      all_goals (first | (exfalso; omega) | (go_ret; exact ⟨ret_int (by unfold mulS; omega), rfl⟩))

set_option maxHeartbeats 400000 in
theorem rpow_ok (a : Int) (w : World) : Calls Try.prog 17 #[.int .i64 a] w fun e w' => e = .returned (.int .i64 (powS a)) ∧ w = w' := by
  rcases (by omega : a < 0 ∨ 0 ≤ a ∧ a ≤ 61 ∨ 61 < a) with h | ⟨h, h'⟩ | h
  · go_enter Try.func17, Try.ntmps17
    go_wp2
    go_ret
    exact ⟨ret_int (by rw [powS_in a (by omega), show (max a 0).toNat = 0 by omega]; rfl), rfl⟩
  · go_enter Try.func17, Try.ntmps17
    go_wp2
    go_ret
    exact ⟨ret_int ((wrap_pow a h h').trans (by rw [powS_in a (by omega), show max a 0 = a by omega])), rfl⟩
  · go_enter Try.func17, Try.ntmps17
    go_wp2
    go_ret
    exact ⟨ret_int (by unfold powS; rw [if_pos h]), rfl⟩

theorem wrap_pow62 (k : Nat) (h' : k ≤ 62) : wrap64 (2 ^ k) = 2 ^ k := by
  have := two_pow_62 k (by omega)
  exact IntWalk.wrap64_in _ ⟨by omega, by omega⟩
set_option maxHeartbeats 400000 in
theorem rwidth_ok (n : Int) (w : World) :
    Calls Try.prog 11 #[.int .i64 n] w fun e w' => e = .returned (.tuple #[.int .i64 (widS n), .int .i64 (widE n)]) ∧ w = w' := by
  by_cases h : 1 ≤ n ∧ n ≤ 4611686018427387903
  · obtain ⟨h1, h2⟩ := h
    obtain ⟨e1, e2⟩ := widS_yes n h1 h2
    have E1 := Lib.hid e1; have E2 := Lib.hid e2; clear e1 e2
    go_enter Try.func11, Try.ntmps11
    go_wp2
    go_loop [4] (fun c => ∃ k : Nat, Hid (k = 0 ∨ (2 : Nat) ^ (k - 1) ≤ (n - 1).toNat) ∧ c = .int .i64 k ∧ (k : Int) ≤ 62) (fun c => 62 - (intOf c).toNat)
    case atStart => exact ⟨0, .inl rfl, rfl, by omega⟩
    case round =>
      obtain ⟨k, hk, rfl, hk2⟩ := hrel
      have hb := bl_62 (n - 1).toNat (by omega)
      by_cases hz : k < 62
      · have hp := two_pow_62 k (by omega)
        have hwp := wrap_pow62 k (by omega)
        have e : ((2 ^ k : Nat) : Int) = (2 : Int) ^ k := by simp
        by_cases hlt : (2 : Int) ^ k < n
        · have hle : (2 : Nat) ^ k ≤ (n - 1).toNat := by omega
          have HL := Lib.hid hle; clear hle e
          go_wp2
          go_round
          case rel => exact ⟨k + 1, .inr HL.out, by go_num, by omega⟩
          case measure => simp [intOf]; omega
        · have hle : (n - 1).toNat < (2 : Nat) ^ k := by omega
          have hbl := bl_eq _ _ hle hk.out
          have HB := Lib.hid hbl; clear hle hbl e
          go_wp2
          go_ret2
          exact ⟨ret_int2 (by rw [E1.out, HB.out]) E2.out.symm, rfl⟩
      · obtain rfl : k = 62 := by omega
        have hbl : bl (n - 1).toNat = 62 := bl_eq _ _ (by simp only [show (2 : Nat) ^ 62 = 4611686018427387904 from by decide]; omega) hk.out
        have HB := Lib.hid hbl; clear hbl
        go_wp2
        go_ret2
        exact ⟨ret_int2 (by rw [E1.out, HB.out]; rfl) E2.out.symm, rfl⟩
  · obtain ⟨e1, e2⟩ := widS_no n (by omega)
    have E1 := Lib.hid e1; have E2 := Lib.hid e2; clear e1 e2
    rcases (by omega : n < 1 ∨ ¬ n < 1 ∧ 4611686018427387903 < n) with h1 | ⟨h1, h2⟩
    all_goals
      clear h
      go_enter Try.func11, Try.ntmps11
      go_wp2
      go_ret2
      exact ⟨ret_int2 E1.out.symm E2.out.symm, rfl⟩
end Go.Proofs.Ytfijnfokfkpbpaa
