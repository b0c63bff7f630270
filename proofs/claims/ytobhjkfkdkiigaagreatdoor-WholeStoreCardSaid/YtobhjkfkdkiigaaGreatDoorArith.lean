/- The numbers of layer 1 (bits) in plain Lean, and the contracts of osier/bits and osier/osierref01 at numbers (Width, Add, Mul, Pow): each call returns what the plain function says and leaves the world as it was. -/
import Derived.Test.YtobhjkfkdkiigaaGreatDoorBase
namespace Go.Proofs.YtobhjkfkdkiigaaGreatDoor
open Go.RowKit

/-! ### plain numbers -/
def cnt (n : Int) : Int := min (max n 0) 4611686018427387903
theorem cnt_bd (n : Int) : 0 ≤ cnt n ∧ cnt n ≤ 4611686018427387903 := by unfold cnt; omega
theorem cnt_hi (n : Int) (h : 4611686018427387903 < n) : cnt n = 4611686018427387903 := by unfold cnt; omega
theorem cnt_lo (n : Int) (h : n < 0) : cnt n = 0 := by unfold cnt; omega
theorem cnt_in (n : Int) (h : 0 ≤ n) (h2 : n ≤ 4611686018427387903) : cnt n = n := by unfold cnt; omega
def addS (a b : Int) : Int := min (cnt a + cnt b) 4611686018427387903
def mulS (a b : Int) : Int := min (cnt a * cnt b) 4611686018427387903
def powS (n : Int) : Int := if 61 < n then 4611686018427387903 else 2 ^ (max n 0).toNat
/-- how many bits a number has -/
def bl (m : Nat) : Nat := if m = 0 then 0 else m.log2 + 1
def widS (n : Int) : Int := if 1 ≤ n ∧ n ≤ 4611686018427387903 then ((bl (n - 1).toNat : Nat) : Int) else 0
def widE (n : Int) : Int := if 1 ≤ n ∧ n ≤ 4611686018427387903 then 0 else 1

theorem two_pow_le (k m : Nat) (h : k ≤ m) : (2 : Nat) ^ k ≤ 2 ^ m := Nat.pow_le_pow_right (by decide) h
theorem two_pow_61 (k : Nat) (h : k ≤ 61) : (1 : Int) ≤ 2 ^ k ∧ (2 : Int) ^ k ≤ 2305843009213693952 := by
  have h1 := two_pow_le k 61 h
  have h2 := Nat.one_le_two_pow (n := k)
  have e : ((2 ^ k : Nat) : Int) = (2 : Int) ^ k := by simp
  have e2 : (2 : Nat) ^ 61 = 2305843009213693952 := by decide
  omega
theorem two_pow_62 (k : Nat) (h : k ≤ 62) : (1 : Int) ≤ 2 ^ k ∧ (2 : Int) ^ k ≤ 4611686018427387904 := by
  have h1 := two_pow_le k 62 h
  have h2 := Nat.one_le_two_pow (n := k)
  have e : ((2 ^ k : Nat) : Int) = (2 : Int) ^ k := by simp
  have e2 : (2 : Nat) ^ 62 = 4611686018427387904 := by decide
  omega
theorem bl_half (m : Nat) (h : 0 < m) : bl m = bl (m / 2) + 1 := by
  unfold bl
  rw [if_neg (by omega), Nat.log2_def]
  by_cases h2 : 2 ≤ m
  · rw [if_pos h2, if_neg (by omega)]
  · rw [if_neg h2, if_pos (by omega)]
theorem bl_zero : bl 0 = 0 := rfl
theorem lt_two_pow_bl (m : Nat) : m < 2 ^ bl m := by
  unfold bl
  by_cases h : m = 0
  · subst h; simp
  · rw [if_neg h]; exact (Nat.log2_lt h).1 (by omega)
theorem bl_le_of_lt (m k : Nat) (h : m < 2 ^ k) : bl m ≤ k := by
  unfold bl
  by_cases h0 : m = 0
  · rw [if_pos h0]; omega
  · rw [if_neg h0]; have := (Nat.log2_lt h0).2 h; omega
theorem lt_bl_of_le (m k : Nat) (h : 2 ^ k ≤ m) : k < bl m := by
  have h0 : m ≠ 0 := by have := Nat.one_le_two_pow (n := k); omega
  unfold bl
  rw [if_neg h0]
  have := (Nat.le_log2 h0).2 h
  omega
theorem bl_eq (m k : Nat) (h : m < 2 ^ k) (h2 : k = 0 ∨ 2 ^ (k - 1) ≤ m) : bl m = k := by
  have h3 := bl_le_of_lt m k h
  rcases h2 with h2 | h2
  · omega
  · have := lt_bl_of_le m (k - 1) h2; omega
theorem bl_62 (m : Nat) (h : (m : Int) ≤ 4611686018427387902) : bl m ≤ 62 := bl_le_of_lt m 62 (by simp only [show (2 : Nat) ^ 62 = 4611686018427387904 from by decide]; omega)

/-! ### bits.count, osierref01.count -/
theorem count_ok (n : Int) (w : World) : Calls Tryz.prog 156 #[.int .i64 n] w fun e w' => e = .returned (.int .i64 (cnt n)) ∧ w = w' := by
  rcases (by omega : n < 0 ∨ 0 ≤ n ∧ n ≤ 4611686018427387903 ∨ 4611686018427387903 < n) with h | ⟨h, h'⟩ | h
  · have hc := cnt_lo n h
    go_enter Tryz.func156, Tryz.ntmps156
    go_wp2
    all_goals (first | (exfalso; omega) | (go_ret; exact ⟨ret_int (by omega), rfl⟩))
  · have hc := cnt_in n h h'
    go_enter Tryz.func156, Tryz.ntmps156
    go_wp2
    all_goals (first | (exfalso; omega) | (go_ret; exact ⟨ret_int (by omega), rfl⟩))
  · have hc := cnt_hi n h
    go_enter Tryz.func156, Tryz.ntmps156
    go_wp2
    all_goals (first | (exfalso; omega) | (go_ret; exact ⟨ret_int (by omega), rfl⟩))

set_option maxHeartbeats 400000 in
theorem add_ok (a b : Int) (w : World) : Calls Tryz.prog 125 #[.int .i64 a, .int .i64 b] w fun e w' => e = .returned (.int .i64 (addS a b)) ∧ w = w' := by
  have ha := cnt_bd a
  have hb := cnt_bd b
  by_cases hlt : 4611686018427387903 - cnt a < cnt b
  all_goals
    go_enter Tryz.func125, Tryz.ntmps125
    go_wp2_with (go_at_call 156; refine (count_ok _ _).mono ?_; rintro e w' ⟨rfl, rfl⟩)
    all_goals (first | (exfalso; omega) | (go_ret; exact ⟨ret_int (by unfold addS; omega), rfl⟩))

theorem mul_hi (x y : Int) (hx : 0 < x) (h : 4611686018427387903 / x < y) : 4611686018427387903 < x * y := by
  rw [Int.ediv_lt_iff_lt_mul hx] at h; rw [Int.mul_comm]; exact h
theorem mul_lo (x y : Int) (hx : 0 < x) (h : y ≤ 4611686018427387903 / x) : x * y ≤ 4611686018427387903 := by
  rw [Int.le_ediv_iff_mul_le hx] at h; rw [Int.mul_comm]; exact h
theorem mul_nn (x y : Int) (hx : 0 ≤ x) (hy : 0 ≤ y) : 0 ≤ x * y := Int.mul_nonneg hx hy
set_option maxHeartbeats 400000 in
theorem mul_ok (a b : Int) (w : World) : Calls Tryz.prog 126 #[.int .i64 a, .int .i64 b] w fun e w' => e = .returned (.int .i64 (mulS a b)) ∧ w = w' := by
  have ha := cnt_bd a
  have hb := cnt_bd b
  by_cases hz : cnt a = 0
  · have hm : mulS a b = 0 := by unfold mulS; rw [hz]; omega
    have HM := Lib.hid hm; clear hm
    have hz1 : (cnt a != 0) = false := by rw [hz]; rfl
    have Hz := Lib.hid hz; clear hz
    go_enter Tryz.func126, Tryz.ntmps126
    go_wp2_with (go_at_call 156; refine (count_ok _ _).mono ?_; rintro e w' ⟨rfl, rfl⟩)
    go_ret
    exact ⟨ret_int (by rw [HM.out, Hz.out]; simp [go_sem, wrap64]), rfl⟩
  · have hz1 : (cnt a != 0) = true := by rw [bne_iff_ne]; exact hz
    by_cases hlt : 4611686018427387903 / cnt a < cnt b
    · have hm := mul_hi (cnt a) (cnt b) (by omega) hlt
      go_enter Tryz.func126, Tryz.ntmps126
      go_wp2_with (go_at_call 156; refine (count_ok _ _).mono ?_; rintro e w' ⟨rfl, rfl⟩)
      go_ret
      exact ⟨ret_int (by unfold mulS; omega), rfl⟩
    · have hm := mul_lo (cnt a) (cnt b) (by omega) (by omega)
      have hn := mul_nn (cnt a) (cnt b) (by omega) (by omega)
      go_enter Tryz.func126, Tryz.ntmps126
      go_wp2_with (go_at_call 156; refine (count_ok _ _).mono ?_; rintro e w' ⟨rfl, rfl⟩)
      go_ret
      exact ⟨ret_int (by unfold mulS; omega), rfl⟩

theorem wrap_pow (a : Int) (h : 0 ≤ a) (h' : a ≤ 61) : wrap64 (2 ^ a.toNat) = 2 ^ a.toNat := by
  have := two_pow_61 a.toNat (by omega)
  exact IntWalk.wrap64_in _ ⟨by omega, by omega⟩
theorem powS_in (a : Int) (h' : a ≤ 61) : powS a = 2 ^ (max a 0).toNat := by unfold powS; rw [if_neg (by omega)]
theorem powS_bd (a : Int) : 1 ≤ powS a ∧ powS a ≤ 4611686018427387903 := by
  unfold powS
  split
  · omega
  · have := two_pow_61 (max a 0).toNat (by omega); omega
set_option maxHeartbeats 400000 in
theorem pow_ok (a : Int) (w : World) : Calls Tryz.prog 127 #[.int .i64 a] w fun e w' => e = .returned (.int .i64 (powS a)) ∧ w = w' := by
  rcases (by omega : a < 0 ∨ 0 ≤ a ∧ a ≤ 61 ∨ 61 < a) with h | ⟨h, h'⟩ | h
  · go_enter Tryz.func127, Tryz.ntmps127
    go_wp2
    go_ret
    exact ⟨ret_int (by rw [powS_in a (by omega), show (max a 0).toNat = 0 by omega]; rfl), rfl⟩
  · go_enter Tryz.func127, Tryz.ntmps127
    go_wp2
    go_ret
    exact ⟨ret_int ((wrap_pow a h h').trans (by rw [powS_in a (by omega), show max a 0 = a by omega])), rfl⟩
  · go_enter Tryz.func127, Tryz.ntmps127
    go_wp2
    go_ret
    exact ⟨ret_int (by unfold powS; rw [if_pos h]), rfl⟩

/-! ### bits.Width -/
theorem widS_no (n : Int) (h : n < 1 ∨ 4611686018427387903 < n) : widS n = 0 ∧ widE n = 1 := by
  unfold widS widE; constructor <;> rw [if_neg (by omega)]
theorem widS_yes (n : Int) (h : 1 ≤ n) (h2 : n ≤ 4611686018427387903) : widS n = (bl (n - 1).toNat : Nat) ∧ widE n = 0 := by
  unfold widS widE; constructor <;> rw [if_pos ⟨h, h2⟩]
theorem widS_bd (n : Int) : 0 ≤ widS n ∧ widS n ≤ 62 ∧ 0 ≤ widE n ∧ widE n ≤ 1 := by
  by_cases h : 1 ≤ n ∧ n ≤ 4611686018427387903
  · obtain ⟨e1, e2⟩ := widS_yes n h.1 h.2
    have := bl_62 (n - 1).toNat (by omega)
    omega
  · obtain ⟨e1, e2⟩ := widS_no n (by omega); omega
set_option maxHeartbeats 400000 in
theorem width_ok (n : Int) (w : World) :
    Calls Tryz.prog 78 #[.int .i64 n] w fun e w' => e = .returned (.tuple #[.int .i64 (widS n), .int .i64 (widE n)]) ∧ w = w' := by
  by_cases h : 1 ≤ n ∧ n ≤ 4611686018427387903
  · obtain ⟨h1, h2⟩ := h
    obtain ⟨e1, e2⟩ := widS_yes n h1 h2
    have E1 := Lib.hid e1; have E2 := Lib.hid e2; clear e1 e2
    go_enter Tryz.func78, Tryz.ntmps78
    go_wp2
    go_loop [4, 5] (fun c m => ∃ k q : Nat, k + bl q = bl (n - 1).toNat ∧ c = .int .i64 k ∧ m = .int .i64 q ∧ (k : Int) ≤ 62 ∧ (q : Int) ≤ 4611686018427387902) (fun _ m => (intOf m).toNat)
    case atStart => exact ⟨0, (n - 1).toNat, by omega, rfl, by rw [show ((n - 1).toNat : Int) = n - 1 by omega], by omega, by omega⟩
    case round =>
      obtain ⟨k, q, hk, rfl, rfl, hk2, hq⟩ := hrel
      have hb := bl_62 (n - 1).toNat (by omega)
      have H := Lib.hid hk; clear hk
      by_cases hz : 0 < q
      · have hb2 := bl_half q hz
        have H2 := Lib.hid hb2; clear hb2
        go_wp2
        go_round
        case rel => exact ⟨k + 1, q / 2, by have := H.out; have := H2.out; omega, by go_num, by rw [show ((q / 2 : Nat) : Int) = (q : Int) / 2 by omega], by have := H.out; have := H2.out; omega, by omega⟩
        case measure => simp [intOf]; omega
      · have hz0 : q = 0 := by omega
        have hq0 : k = bl (n - 1).toNat := by have := H.out; rw [hz0, bl_zero] at this; omega
        have HQ := Lib.hid hq0; clear hq0 hz0
        have hz' : (q : Int) ≤ 0 := by omega
        go_wp2
        go_ret2
        exact ⟨ret_int2 (by rw [HQ.out, E1.out]) E2.out.symm, rfl⟩
  · obtain ⟨e1, e2⟩ := widS_no n (by omega)
    have E1 := Lib.hid e1; have E2 := Lib.hid e2; clear e1 e2
    rcases (by omega : n < 1 ∨ ¬ n < 1 ∧ 4611686018427387903 < n) with h1 | ⟨h1, h2⟩
    all_goals
      clear h
      go_enter Tryz.func78, Tryz.ntmps78
      go_wp2
      go_ret2
      exact ⟨ret_int2 E1.out.symm E2.out.symm, rfl⟩
end Go.Proofs.YtobhjkfkdkiigaaGreatDoor
