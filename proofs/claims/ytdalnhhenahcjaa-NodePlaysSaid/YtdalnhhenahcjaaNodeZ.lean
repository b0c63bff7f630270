/- awake of osierlaw03. -/
import Derived.Test.YtdalnhhenahcjaaNodeY
import Derived.Test.YtdalnhhenahcjaaHashE
namespace Go.Proofs.Ytdalnhhenahcjaa
open Go.RowKit HP NP
def aw1 : NS := { newS 2 9 with l := putN (base2 2) 2 ⟨true, 0, 0, 1, 0⟩, made := 1 }
theorem aw_new : okNew 2 9 = true := by decide
theorem aw_a : mkS (newS 2 9) 0 0 1 = (aw1, 2, 0) := rfl
theorem aw_b : mkS aw1 0 0 1 = (aw1, 2, 0) := rfl
theorem aw_c : mkS aw1 1 1 1 = (aw1, 1, 0) := rfl
theorem aw_d : evB aw1 [true] 2 = true ∧ findE aw1 2 = 0 ∧ cnt aw1.l = 3 ∧ aw1.vars = 2 := ⟨rfl, rfl, rfl, rfl⟩
theorem nnewc (w : World) (B : Nat) (hB : B ≤ w.heap.size) (vars budget : Int) (h : okNew vars budget = true) : Calls Try.prog 25 #[.int .i64 vars, .int .i64 budget] w fun e w' => ∃ p, e = .returned (.tuple #[.pointer (some ⟨p, 0, none⟩), .int .i64 0]) ∧ Sto w' B p (newS vars.toNat budget.toNat) ∧ Below w.heap.size w w' ∧ w.heap.size ≤ p :=
  (nnew_ok w B hB vars budget).mono fun e w' hh => by
    rcases hh with ⟨_, hh⟩ | ⟨h0, _⟩
    · exact hh
    · rw [h] at h0; cases h0
set_option maxRecDepth 100000 in
set_option maxHeartbeats 2000000 in
theorem awake03 (w : World) : Calls Try.prog 30 #[] w (Fine w) := by
  obtain ⟨hd1, hd2, hd3, hd4⟩ := aw_d
  have HA := Lib.hid aw_a; have HBb := Lib.hid aw_b; have HC := Lib.hid aw_c
  have D1 := Lib.hid hd1; have D2 := Lib.hid hd2; have D3 := Lib.hid hd3; have D4 := Lib.hid hd4
  clear hd1 hd2 hd3 hd4
  go_enter Try.func30, Try.ntmps30
  go_wp2_with fail
  refine (nnewc w w.heap.size (Nat.le_refl _) 2 9 aw_new).mono ?_
  rintro e w1 ⟨p, rfl, hs1, hb1, _⟩
  have HS1 := Lib.hid (show Sto w1 w.heap.size p (newS 2 9) from hs1); have HB1 := Lib.hid hb1
  have hB1 := hb1.size
  clear hs1 hb1
  go_wp2_with fail
  refine (nmk_ok w1 w.heap.size p _ HS1.out hB1 0 0 1).mono ?_
  rintro e w2 ⟨rfl, hs2, hk2⟩
  rw [HA.out] at hs2 ⊢
  have HS2 := Lib.hid hs2; have HB2 := Lib.hid (HB1.out.trans (hk2.low hB1))
  have hB2 := HB2.out.size
  clear hs2 hk2
  go_wp2_with fail
  refine (nmk_ok w2 w.heap.size p _ HS2.out hB2 0 0 1).mono ?_
  rintro e w3 ⟨rfl, hs3, hk3⟩
  rw [HBb.out] at hs3 ⊢
  have HS3 := Lib.hid hs3; have HB3 := Lib.hid (HB2.out.trans (hk3.low hB2))
  have hB3 := HB3.out.size
  clear hs3 hk3
  go_wp2_with fail
  refine (nmk_ok w3 w.heap.size p _ HS3.out hB3 1 1 1).mono ?_
  rintro e w4 ⟨rfl, hs4, hk4⟩
  rw [HC.out] at hs4 ⊢
  have HS4 := Lib.hid hs4; have HB4 := Lib.hid (HB3.out.trans (hk4.low hB3))
  have hB4 := HB4.out.size
  clear hs4 hk4
  go_wp2_with fail
  refine (neval_ok _ w.heap.size p aw1 (HS4.out.below ((Below.refl _ _).alloc (Nat.le_refl _) (.cells #[.bool true] 4))) 2 (some ⟨w4.heap.size, 0, none⟩) [true] 1 (by decide) (Cells.lit w4 #[.bool true] 4)).mono ?_
  rintro e w5 ⟨rfl, hb5⟩
  rw [D1.out, D2.out]
  have HB5 := Lib.hid ((HB4.out.alloc hB4 (.cells #[.bool true] 4)).trans (hb5.mono (by simp; omega)))
  have HS5 := Lib.hid ((HS4.out.below ((Below.refl _ _).alloc (Nat.le_refl _) (.cells #[.bool true] 4))).below hb5)
  clear hb5
  go_wp2_with fail
  refine (nlen_ok w5 w.heap.size p aw1 HS5.out).mono ?_
  rintro e w6 ⟨rfl, rfl⟩
  rw [D3.out]
  go_wp2_with fail
  refine (nvars_ok w5 w.heap.size p aw1 HS5.out).mono ?_
  rintro e w6 ⟨rfl, rfl⟩
  rw [D4.out]
  go_wp2_with fail
  go_ret
  exact ⟨rfl, HB5.out⟩
end Go.Proofs.Ytdalnhhenahcjaa
