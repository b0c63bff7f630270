/- The contracts of osier/osierref01 at numbers: they return what the plain functions of XArith say, and leave the world as it was. -/
import Derived.Test.YtedfakpmdncnmaaDoorArith
namespace Go.Proofs.YtedfakpmdncnmaaDoor
open Go.RowKit

theorem wrap_pow62 (k : Nat) (h' : k ≤ 62) : wrap64 (2 ^ k) = 2 ^ k := by
  have := two_pow_62 k (by omega)
  exact IntWalk.wrap64_in _ ⟨by omega, by omega⟩
set_option maxHeartbeats 400000 in
theorem rwidth_ok (n : Int) (w : World) :
    Calls Tryd.prog 12 #[.int .i64 n] w fun e w' => e = .returned (.tuple #[.int .i64 (widS n), .int .i64 (widE n)]) ∧ w = w' := by
  by_cases h : 1 ≤ n ∧ n ≤ 4611686018427387903
  · obtain ⟨h1, h2⟩ := h
    obtain ⟨e1, e2⟩ := widS_yes n h1 h2
    have E1 := Lib.hid e1; have E2 := Lib.hid e2; clear e1 e2
    go_enter Tryd.func12, Tryd.ntmps12
    go_wp2
    go_loop [4] (fun c => ∃ k : Nat, Hid (k = 0 ∨ (2 : Nat) ^ (k - 1) ≤ (n - 1).toNat) ∧ c = .int .i64 k ∧ (k : Int) ≤ 62) (fun c => 62 - (intOf c).toNat)
    case atStart => exact ⟨0, .inl rfl, rfl, by omega⟩
    case round =>
      obtain ⟨k, hk, rfl, hk2⟩ := hrel
      have hb := bl_62 (n - 1).toNat (by omega)
      by_cases hz : k < 62
      · have hp := two_pow_62 k (by omega)
        have hwp := wrap_pow62 k (by omega)
        have e : ((2 ^ k : Nat) : Int) = (2 : Int) ^ k := by simp
        by_cases hlt : (2 : Int) ^ k < n
        · have hle : (2 : Nat) ^ k ≤ (n - 1).toNat := by omega
          have HL := Lib.hid hle; clear hle e
          go_wp2
          go_round
          case rel => exact ⟨k + 1, .inr HL.out, by go_num, by omega⟩
          case measure => simp [intOf]; omega
        · have hle : (n - 1).toNat < (2 : Nat) ^ k := by omega
          have hbl := bl_eq _ _ hle hk.out
          have HB := Lib.hid hbl; clear hle hbl e
          go_wp2
          go_ret2
          exact ⟨ret_int2 (by rw [E1.out, HB.out]) E2.out.symm, rfl⟩
      · obtain rfl : k = 62 := by omega
        have hbl : bl (n - 1).toNat = 62 := bl_eq _ _ (by simp only [show (2 : Nat) ^ 62 = 4611686018427387904 from by decide]; omega) hk.out
        have HB := Lib.hid hbl; clear hbl
        go_wp2
        go_ret2
        exact ⟨ret_int2 (by rw [E1.out, HB.out]; rfl) E2.out.symm, rfl⟩
  · obtain ⟨e1, e2⟩ := widS_no n (by omega)
    have E1 := Lib.hid e1; have E2 := Lib.hid e2; clear e1 e2
    rcases (by omega : n < 1 ∨ ¬ n < 1 ∧ 4611686018427387903 < n) with h1 | ⟨h1, h2⟩
    all_goals
      clear h
      go_enter Tryd.func12, Tryd.ntmps12
      go_wp2
      go_ret2
      exact ⟨ret_int2 E1.out.symm E2.out.symm, rfl⟩
end Go.Proofs.YtedfakpmdncnmaaDoor
