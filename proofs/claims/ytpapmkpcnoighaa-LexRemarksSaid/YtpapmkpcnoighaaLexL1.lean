/- LexRemarks: the walk. -/
import Derived.Test.YtpapmkpcnoighaaLexD
import Derived.Test.YtpapmkpcnoighaaLexQ
namespace Go.Proofs.Ytpapmkpcnoighaa
open Go.RowKit LP
theorem sig_tail (s r : ByteArray) (hs : s.size ≤ 2048) (hr : r.size ≤ 2048) (h : ∀ c ∈ r.data.toList, c.toNat ≠ 10) : Sig (s ++ ⟨#[10, 35, 32]⟩ ++ r ++ ⟨#[10, 32, 9]⟩) = Sig s := by
  have e : (s ++ ⟨#[10, 35, 32]⟩ ++ r ++ ⟨#[10, 32, 9]⟩ : ByteArray).data.toList = s.data.toList ++ tailL r.data.toList := by
    simp [tailL]
  have hz : (s ++ ⟨#[10, 35, 32]⟩ ++ r ++ ⟨#[10, 32, 9]⟩ : ByteArray).size = s.size + r.size + 6 := by
    rw [Lib.size_eq, e, Lib.size_eq, Lib.size_eq r]; simp [tailL]; omega
  unfold Sig
  rw [hz, e, if_neg (by omega), if_neg (by omega)]
  exact lex_tail _ h _ _ _ _ (Nat.le_refl _)
set_option maxHeartbeats 400000 in
theorem lexRemarks_walk (w : World) (s : ByteArray) (hs : s.size ≤ maxLen) (r : ByteArray) (hr : r.size ≤ maxLen) : Calls Try.prog 5 #[.string s, .string r] w (Fine w) := by
  unfold maxLen at hs hr
  have hA := Lib.hid awake10
  by_cases hb1 : 2048 < s.size
  · have d1 : decide (2048 < (s.size : Int)) = true := decide_eq_true (by omega)
    clear hb1
    go_enter Try.func5, Try.ntmps5
    go_wp2_with fail
    refine (hA.out _).mono ?_
    rintro e w' ⟨rfl, hb⟩
    go_wp2_with fail
    go_ret
    exact ⟨rfl, hb⟩
  · have d1 : decide (2048 < (s.size : Int)) = false := decide_eq_false (by omega)
    by_cases hb2 : 2048 < r.size
    · have d2 : decide (2048 < (r.size : Int)) = true := decide_eq_true (by omega)
      clear hb2 hb1
      go_enter Try.func5, Try.ntmps5
      go_wp2_with fail
      refine (hA.out _).mono ?_
      rintro e w' ⟨rfl, hb⟩
      go_wp2_with fail
      go_ret
      exact ⟨rfl, hb⟩
    · have d2 : decide (2048 < (r.size : Int)) = false := decide_eq_false (by omega)
      have hs2 : s.size ≤ 2048 := by omega
      have hr2 : r.size ≤ 2048 := by omega
      clear hb1 hb2
      go_enter Try.func5, Try.ntmps5
      go_wp2_with fail
      go_loopg [5] r.size (fun m x wr => ∃ k : Nat, m + k = r.size ∧ x = .int .i64 (k : Int) ∧ wr = w ∧ ∀ j (hj : j < r.size), j < k → r[j].toNat ≠ 10)
      case atStart => exact ⟨0, rfl, rfl, rfl, fun j _ h => absurd h (by omega)⟩
      case round =>
        obtain ⟨k, hmk, rfl, rfl, hno⟩ := hrel
        have HM := Lib.hid hmk; have HN := Lib.hid hno; clear hmk hno
        by_cases hk : k < r.size
        · by_cases h10 : r[k].toNat = 10
          · have dc : ((r[k].toNat : Int) == 10) = true := by rw [beq_iff_eq]; omega
            clear h10
            go_wp2_with fail
            refine (hA.out _).mono ?_
            rintro e w' ⟨rfl, hb⟩
            go_wp2_with fail
            go_ret
            exact ⟨rfl, hb⟩
          · have dc : ((r[k].toNat : Int) == 10) = false := by rw [beq_eq_false_iff_ne]; omega
            have H10 := Lib.hid h10
            clear h10
            go_wp2_with fail
            go_roundg (r.size - (k + 1))
            case measure => have := HM.out; omega
            case rel => exact ⟨k + 1, by omega, by go_num, rfl, fun j hj h => by
              rcases Nat.lt_or_ge j k with h2 | h2
              · exact HN.out j hj h2
              · have : j = k := by omega
                subst this; exact H10.out⟩
        · have hge : r.size ≤ k := by omega
          have hno : ∀ c ∈ r.data.toList, c.toNat ≠ 10 := by
            intro c hc
            obtain ⟨j, hj, rfl⟩ := List.getElem_of_mem hc
            have hj2 : j < r.size := by rw [Lib.size_eq]; exact hj
            exact HN.out j hj2 (by omega)
          have HNO := Lib.hid hno
          clear hno hk
          go_wp2_with fail
          refine (signs_ok s (by unfold maxLen; omega) _).mono ?_
          rintro e w1 ⟨v1, rfl, hown1, hb1⟩
          have HO1 := Lib.hid hown1; have HB1 := Lib.hid hb1
          clear hown1 hb1
          obtain ⟨R, hR⟩ : ∃ R, R = Sig s := ⟨_, rfl⟩
          have HR := Lib.hid hR
          rw [← hR]
          clear hR
          go_wp2_with fail
          refine (signs_ok _ (by unfold maxLen; simp [ByteArray.size_append]; have h3 : (⟨#[10, 35, 32]⟩ : ByteArray).size = 3 := rfl; have h4 : (⟨#[10, 32, 9]⟩ : ByteArray).size = 3 := rfl; omega) _).mono ?_
          rintro e w2 ⟨v2, rfl, hown2, hb2⟩
          rw [sig_tail s r hs2 hr2 HNO.out, ← HR.out] at hown2 ⊢
          have HB2 := Lib.hid (HB1.out.trans (hb2.mono HB1.out.size))
          have HO2 := Lib.hid hown2
          have HO11 := Lib.hid (own_below (HR.out ▸ HO1.out) hb2)
          clear hown2 hb2
          have hlen : R.1.length ≤ 4096 := by rw [HR.out]; exact sig_len s
          go_wp2_with fail
          refine (same_ok R.1 hlen _ _ _ _ _ HO11.out HO2.out).mono ?_
          rintro e w3 ⟨rfl, hb3⟩
          have HB3 := Lib.hid (HB2.out.trans (hb3.mono HB2.out.size))
          clear hb3 hlen
          go_wp2_with fail
          refine (hA.out _).mono ?_
          rintro e w4 ⟨rfl, hb4⟩
          have HB4 := Lib.hid (HB3.out.trans (hb4.mono HB3.out.size))
          clear hb4
          go_wp2_with fail
          go_ret
          exact ⟨rfl, HB4.out⟩
end Go.Proofs.Ytpapmkpcnoighaa
