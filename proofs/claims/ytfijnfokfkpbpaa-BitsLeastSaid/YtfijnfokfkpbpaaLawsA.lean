/- The walks of the laws of layer 1 (bits): each returns true, and of what was there nothing has turned. -/
import Derived.Test.YtfijnfokfkpbpaaPut
namespace Go.Proofs.Ytfijnfokfkpbpaa
open Go.RowKit

/-! ### plain: sums and products of counts -/
theorem cnt_addS (a b : Int) : cnt (addS a b) = addS a b := by have := cnt_bd a; have := cnt_bd b; unfold addS; exact cnt_in _ (by omega) (by omega)
theorem mulS_bd (a b : Int) : 0 ≤ mulS a b ∧ mulS a b ≤ 4611686018427387903 := by
  have ha := cnt_bd a; have hb := cnt_bd b
  have := mul_nn (cnt a) (cnt b) ha.1 hb.1
  unfold mulS; omega
theorem cnt_mulS (a b : Int) : cnt (mulS a b) = mulS a b := cnt_in _ (mulS_bd a b).1 (mulS_bd a b).2
theorem sat_mul (p z : Int) (hp : 0 ≤ p) (hz : 0 ≤ z) : min (min p 4611686018427387903 * z) 4611686018427387903 = min (p * z) 4611686018427387903 := by
  by_cases h : p ≤ 4611686018427387903
  · rw [Int.min_eq_left h]
  · rcases Int.lt_or_eq_of_le hz with h1 | h1
    · have h2 : p * 1 ≤ p * z := Int.mul_le_mul_of_nonneg_left (by omega) hp
      have h3 : min p 4611686018427387903 = 4611686018427387903 := by omega
      rw [h3]
      omega
    · subst h1; simp
theorem addS_comm (a b : Int) : addS a b = addS b a := by unfold addS; rw [Int.add_comm]
theorem mulS_comm (a b : Int) : mulS a b = mulS b a := by unfold mulS; rw [Int.mul_comm]
theorem addS_assoc (a b c : Int) : addS (addS a b) c = addS a (addS b c) := by
  have ha := cnt_bd a; have hb := cnt_bd b; have hc := cnt_bd c
  rw [addS, cnt_addS, addS, addS, cnt_addS, addS]; omega
theorem mulS_assoc (a b c : Int) : mulS (mulS a b) c = mulS a (mulS b c) := by
  have ha := cnt_bd a; have hb := cnt_bd b; have hc := cnt_bd c
  rw [mulS, cnt_mulS, mulS, mulS, cnt_mulS, mulS, sat_mul _ _ (mul_nn _ _ ha.1 hb.1) hc.1, Int.mul_comm (cnt a) (min _ _), sat_mul _ _ (mul_nn _ _ hb.1 hc.1) ha.1, Int.mul_comm (cnt b * cnt c), Int.mul_assoc]
theorem mulS_addS (a b c : Int) : mulS (addS a b) c = addS (mulS a c) (mulS b c) := by
  have ha := cnt_bd a; have hb := cnt_bd b; have hc := cnt_bd c
  have h1 := mul_nn (cnt a) (cnt c) ha.1 hc.1
  have h2 := mul_nn (cnt b) (cnt c) hb.1 hc.1
  rw [mulS, cnt_addS, addS, addS, cnt_mulS, cnt_mulS, mulS, mulS, sat_mul _ _ (by omega) hc.1, Int.add_mul]
  omega
theorem addS_zero (a : Int) : addS a 0 = mulS a 1 := by
  have ha := cnt_bd a
  unfold addS mulS
  rw [show cnt 0 = 0 from rfl, show cnt 1 = 1 from rfl]; omega
theorem addS_34 : addS 3 4 = 7 := rfl
theorem mulS_34 : mulS 3 4 = 12 := rfl
theorem powS_5 : powS 5 = 32 := rfl
theorem addS_top : addS 4611686018427387903 1 = 4611686018427387903 := by unfold addS cnt; omega
theorem widS_5 : widS 5 = 3 ∧ widE 5 = 0 := by decide +kernel

/-! ### what stands at the statements' ends -/
set_option maxHeartbeats 400000 in
theorem counts_ok (w : World) : Calls Try.prog 18 #[] w fun e w' => e = .returned (.bool true) ∧ w = w' := by
  have e1 := addS_34
  have e2 := mulS_34
  have e3 := powS_5
  have e4 := addS_top
  go_enter Try.func18, Try.ntmps18
  go_wp2_with (first | (go_at_call 12; refine (add_ok _ _ _).mono ?_; rintro e w' ⟨rfl, rfl⟩) | (go_at_call 14; refine (mul_ok _ _ _).mono ?_; rintro e w' ⟨rfl, rfl⟩) | (go_at_call 16; refine (pow_ok _ _).mono ?_; rintro e w' ⟨rfl, rfl⟩))
  go_ret
  exact ⟨rfl, rfl⟩

/-- a law's end -/
def Fine (w : World) (e : Ending) (w' : World) : Prop := e = .returned (.bool true) ∧ Below w.heap.size w w'

set_option maxHeartbeats 400000 in
theorem bitsCounts_walk (w : World) (a : Int) (_ : (Lit.int .i64 a).wf = true) (b : Int) (_ : (Lit.int .i64 b).wf = true) :
    Calls Try.prog 4 #[.int .i64 a, .int .i64 b] w (Fine w) := by
  go_enter Try.func4, Try.ntmps4
  go_wp2_with (first | (go_at_call 12; refine (add_ok _ _ _).mono ?_; rintro e w' ⟨rfl, rfl⟩) | (go_at_call 14; refine (mul_ok _ _ _).mono ?_; rintro e w' ⟨rfl, rfl⟩) | (go_at_call 16; refine (pow_ok _ _).mono ?_; rintro e w' ⟨rfl, rfl⟩) | (go_at_call 13; refine (radd_ok _ _ _).mono ?_; rintro e w' ⟨rfl, rfl⟩) | (go_at_call 15; refine (rmul_ok _ _ _).mono ?_; rintro e w' ⟨rfl, rfl⟩) | (go_at_call 17; refine (rpow_ok _ _).mono ?_; rintro e w' ⟨rfl, rfl⟩) | (go_at_call 18; refine (counts_ok _).mono ?_; rintro e w' ⟨rfl, rfl⟩))
  go_ret
  exact ⟨rfl, Below.refl _ _⟩

set_option maxHeartbeats 400000 in
theorem bitsWidth_walk (w : World) (a : Int) (_ : (Lit.int .i64 a).wf = true) : Calls Try.prog 3 #[.int .i64 a] w (Fine w) := by
  obtain ⟨e1, e2⟩ := widS_5
  go_enter Try.func3, Try.ntmps3
  go_wp2_with (first | (go_at_call 10; refine (width_ok _ _).mono ?_; rintro e w' ⟨rfl, rfl⟩) | (go_at_call 11; refine (rwidth_ok _ _).mono ?_; rintro e w' ⟨rfl, rfl⟩))
  go_ret
  exact ⟨rfl, Below.refl _ _⟩

set_option maxHeartbeats 1000000 in
theorem bitsTurns_walk (w : World) (a : Int) (_ : (Lit.int .i64 a).wf = true) (b : Int) (_ : (Lit.int .i64 b).wf = true) (c : Int) (_ : (Lit.int .i64 c).wf = true) :
    Calls Try.prog 5 #[.int .i64 a, .int .i64 b, .int .i64 c] w (Fine w) := by
  have e1 : (addS a b != addS b a) = false := by rw [addS_comm]; simp
  have e2 : (mulS a b != mulS b a) = false := by rw [mulS_comm]; simp
  have e3 : (addS (addS a b) c != addS a (addS b c)) = false := by rw [addS_assoc]; simp
  have e4 : (mulS (mulS a b) c != mulS a (mulS b c)) = false := by rw [mulS_assoc]; simp
  have e5 : (mulS (addS a b) c == addS (mulS a c) (mulS b c)) = true := by rw [mulS_addS]; simp
  have e6 : (addS a 0 == mulS a 1) = true := by rw [addS_zero]; simp
  go_enter Try.func5, Try.ntmps5
  go_wp2_with (first | (go_at_call 12; refine (add_ok _ _ _).mono ?_; rintro e w' ⟨rfl, rfl⟩) | (go_at_call 14; refine (mul_ok _ _ _).mono ?_; rintro e w' ⟨rfl, rfl⟩) | (go_at_call 18; refine (counts_ok _).mono ?_; rintro e w' ⟨rfl, rfl⟩))
  go_ret
  exact ⟨rfl, Below.refl _ _⟩
end Go.Proofs.Ytfijnfokfkpbpaa
