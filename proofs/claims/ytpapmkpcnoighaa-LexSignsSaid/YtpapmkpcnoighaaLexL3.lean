/- LexSigns: the walk. -/
import Derived.Test.YtpapmkpcnoighaaLexRD
namespace Go.Proofs.Ytpapmkpcnoighaa
open Go.RowKit LP
set_option maxHeartbeats 400000 in
theorem lexSigns_walk (w : World) (s : ByteArray) (hs : s.size ≤ maxLen) : Calls Try.prog 3 #[.string s] w (Fine w) := by
  unfold maxLen at hs
  have hA := Lib.hid awake10
  by_cases hb : 4096 < s.size ∧ s.size ≤ 16384
  · have d1 : decide (4096 < (s.size : Int)) = true := decide_eq_true (by omega)
    have d2 : decide ((s.size : Int) ≤ 16384) = true := decide_eq_true (by omega)
    clear hb
    go_enter Try.func3, Try.ntmps3
    go_wp2_with fail
    refine (hA.out _).mono ?_
    rintro e w' ⟨rfl, hb⟩
    go_wp2_with fail
    go_ret
    exact ⟨rfl, hb⟩
  · obtain ⟨b1, b2, hd1, hd2, hbb⟩ : ∃ b1 b2 : Bool, decide (4096 < (s.size : Int)) = b1 ∧ decide ((s.size : Int) ≤ 16384) = b2 ∧ (b1 && b2) = false := by
      refine ⟨_, _, rfl, rfl, ?_⟩
      rw [Bool.and_eq_false_iff, decide_eq_false_iff_not, decide_eq_false_iff_not]; omega
    have hor : b1 = false ∨ (b1 = true ∧ b2 = false) := by cases b1 <;> cases b2 <;> simp_all
    clear hb hbb
    obtain ⟨R, hR⟩ : ∃ R, R = Sig s := ⟨_, rfl⟩
    have HR := Lib.hid hR
    have hlen : R.1.length ≤ 4096 := by rw [hR]; exact sig_len s
    have HL := Lib.hid hlen
    have HS1 := Lib.hid (signs_ok s (by unfold maxLen; omega))
    have HS2 := Lib.hid (rsigns_ok s (by unfold maxLen; omega))
    rcases hor with rfl | ⟨rfl, rfl⟩
    all_goals
      clear hR hlen
      go_enter Try.func3, Try.ntmps3
      go_wp2_with fail
      refine (HS1.out _).mono ?_
      rintro e w1 ⟨v1, rfl, hown1, hb1⟩
      rw [← HR.out] at hown1 ⊢
      have HO1 := Lib.hid hown1; have HB1 := Lib.hid hb1
      clear hown1 hb1
      go_wp2_with fail
      refine (HS2.out _).mono ?_
      rintro e w2 ⟨v2, rfl, hown2, hb2⟩
      rw [← HR.out] at hown2 ⊢
      have HB2 := Lib.hid (HB1.out.trans (hb2.mono HB1.out.size))
      have HO2 := Lib.hid hown2
      have HO11 := Lib.hid (own_below HO1.out hb2)
      clear hown2 hb2
      go_wp2_with fail
      refine (same_ok R.1 HL.out _ _ _ _ _ HO11.out HO2.out).mono ?_
      rintro e w3 ⟨rfl, hb3⟩
      have HB3 := Lib.hid (HB2.out.trans (hb3.mono HB2.out.size))
      clear hb3
      go_wp2_with fail
      refine (hA.out _).mono ?_
      rintro e w4 ⟨rfl, hb4⟩
      have HB4 := Lib.hid (HB3.out.trans (hb4.mono HB3.out.size))
      clear hb4
      go_wp2_with fail
      go_ret
      exact ⟨rfl, HB4.out⟩
end Go.Proofs.Ytpapmkpcnoighaa
