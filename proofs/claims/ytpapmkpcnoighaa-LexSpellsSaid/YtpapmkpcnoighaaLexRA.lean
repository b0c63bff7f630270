/- The reference's inner functions: digit, part, run. -/
import Derived.Test.YtpapmkpcnoighaaLexD
namespace Go.Proofs.Ytpapmkpcnoighaa
open Go.RowKit LP
set_option maxHeartbeats 400000 in
theorem rdigit_ok (c : UInt8) (w : World) : Calls Try.prog 26 #[.int .u8 (c.toNat : Int)] w fun e w' => e = .returned (.bool (digB c)) ∧ w = w' := by
  have hb := u8_bd c
  have hs : digB c = (decide (48 ≤ c.toNat) && decide (c.toNat ≤ 57)) := rfl
  by_cases h1 : 48 ≤ c.toNat
  · by_cases h2 : c.toNat ≤ 57
    · have hd : digB c = true := by rw [hs]; simp [h1, h2]
      have HD := Lib.hid hd; clear hd hs
      go_enter Try.func26, Try.ntmps26
      go_wp2
      go_ret
      exact ⟨ret_bool (by first | exact HD.out.symm | (rw [HD.out]; done) | (rw [HD.out]; simp; done) | (rw [HD.out]; simp; omega)), rfl⟩
    · have hd : digB c = false := by rw [hs, decide_eq_false h2, Bool.and_false]
      have HD := Lib.hid hd; clear hd hs
      go_enter Try.func26, Try.ntmps26
      go_wp2
      go_ret
      exact ⟨ret_bool (by first | exact HD.out.symm | (rw [HD.out]; done) | (rw [HD.out]; simp; done) | (rw [HD.out]; simp; omega)), rfl⟩
  · have hd : digB c = false := by rw [hs, decide_eq_false h1, Bool.false_and]
    have HD := Lib.hid hd; clear hd hs
    go_enter Try.func26, Try.ntmps26
    go_wp2
    go_ret
    exact ⟨ret_bool (by first | exact HD.out.symm | (rw [HD.out]; done) | (rw [HD.out]; simp; done) | (rw [HD.out]; simp; omega)), rfl⟩

set_option maxHeartbeats 400000 in
theorem rpart_ok (c : UInt8) (w : World) : Calls Try.prog 28 #[.int .u8 (c.toNat : Int)] w fun e w' => e = .returned (.bool (partB c)) ∧ w = w' := by
  have hb := u8_bd c
  have HP := Lib.hid (partB_eq c)
  by_cases h : partP c.toNat
  · have HH := Lib.hid h
    have e : decide (partP c.toNat) = true := decide_eq_true h
    have HE := Lib.hid e
    unfold partP at h
    clear e
    rcases h with ⟨h1, h2⟩ | ⟨h1, h2⟩ | h1
    · go_enter Try.func28, Try.ntmps28
      go_wp2_with (go_at_call 26; refine (rdigit_ok _ _).mono ?_; rintro e w' ⟨rfl, rfl⟩)
      go_ret
      exact ⟨ret_bool (by rw [HP.out, HE.out]; first | done | (simp; done) | (simp; omega)), rfl⟩
    · go_enter Try.func28, Try.ntmps28
      go_wp2_with (go_at_call 26; refine (rdigit_ok _ _).mono ?_; rintro e w' ⟨rfl, rfl⟩)
      go_ret
      exact ⟨ret_bool (by rw [HP.out, HE.out]; first | done | (simp; done) | (simp; omega)), rfl⟩
    · have h3 : ((c.toNat : Int) == 95) = true := by rw [h1]; rfl
      have h4 : (90 : Int) < (c.toNat : Int) := by omega
      have h5 : (c.toNat : Int) < 97 := by omega
      clear h1
      go_enter Try.func28, Try.ntmps28
      go_wp2_with (go_at_call 26; refine (rdigit_ok _ _).mono ?_; rintro e w' ⟨rfl, rfl⟩)
      go_ret
      exact ⟨ret_bool (by rw [HP.out, HE.out]; first | done | (simp; done) | (simp; omega)), rfl⟩
  · have HH := Lib.hid h
    have e : decide (partP c.toNat) = false := decide_eq_false h
    have HE := Lib.hid e
    unfold partP at h
    clear e
    have hx : partB c = digB c := by rw [HP.out, HE.out]; rfl
    have HX := Lib.hid hx; clear hx
    have h3 : ((c.toNat : Int) == 95) = false := by rw [beq_eq_false_iff_ne]; omega
    go_enter Try.func28, Try.ntmps28
    go_wp2_with (go_at_call 26; refine (rdigit_ok _ _).mono ?_; rintro e w' ⟨rfl, rfl⟩)
    all_goals (first | (exfalso; omega) | skip)
    all_goals
      go_ret
      refine ⟨ret_bool ?_, rfl⟩
      have q1 : ((c.toNat : Int) ≤ 122 → ¬ (97 : Int) ≤ (c.toNat : Int)) := by omega
      have q2 : ((c.toNat : Int) ≤ 90 → ¬ (65 : Int) ≤ (c.toNat : Int)) := by omega
      first | (rw [HX.out]; done) | (rw [HX.out]; simp; done) | (rw [HX.out]; simp; omega)


set_option maxHeartbeats 400000 in
theorem rrun_true_ok (s : ByteArray) (hs : s.size ≤ 16384) (q : Nat) (hq : q ≤ s.size) (w : World) : Calls Try.prog 27 #[.string s, .int .i64 (q : Int), .bool true] w fun e w' => e = .returned (.int .i64 (runL digB (s.data.toList.drop q) : Nat)) ∧ w = w' := by
  go_enter Try.func27, Try.ntmps27
  go_wp2_with fail
  go_loopg [7] (s.size - q) (fun m x wr => ∃ n r : Nat, m + r = s.size ∧ r = q + n ∧ x = .int .i64 (n : Int) ∧ wr = w ∧ runL digB (s.data.toList.drop q) = n + runL digB (s.data.toList.drop r))
  case atStart => exact ⟨0, q, by omega, rfl, rfl, rfl, by simp⟩
  case round =>
    obtain ⟨n, r, hmr, hrn, rfl, rfl, hrun⟩ := hrel
    have HM := Lib.hid hmr; have HR := Lib.hid hrun; have HN := Lib.hid hrn
    have hI : (q : Int) + (n : Int) = (r : Int) := by omega
    have hnl : n ≤ 16384 := by omega
    clear hmr hrun hrn
    by_cases hlt : r < s.size
    · have hd : s.data.toList.drop r = s[r] :: s.data.toList.drop (r + 1) := by
        rw [List.drop_eq_getElem_cons (by simpa using hlt)]; rfl
      cases hp : digB s[r]
      · have HP := Lib.hid hp; clear hp
        have hz : runL digB (s.data.toList.drop q) = n := by rw [HR.out, hd, runL_cons, HP.out]; simp
        have HZ := Lib.hid hz; clear hz hd
        cases hq2 : partB s[r]
        · have HQ2 := Lib.hid hq2; clear hq2
          go_wp2_with fail
          refine (rpart_ok _ _).mono ?_
          rintro e w' ⟨rfl, rfl⟩
          rw [HQ2.out]
          go_wp2_with fail
          go_ret
          exact ⟨ret_int (by rw [HZ.out]), rfl⟩
        · have HQ2 := Lib.hid hq2; clear hq2
          go_wp2_with fail
          refine (rpart_ok _ _).mono ?_
          rintro e w' ⟨rfl, rfl⟩
          rw [HQ2.out]
          go_wp2_with fail
          refine (rdigit_ok _ _).mono ?_
          rintro e w' ⟨rfl, rfl⟩
          rw [HP.out]
          go_wp2_with fail
          go_ret
          exact ⟨ret_int (by rw [HZ.out]), rfl⟩
      · have HP := Lib.hid hp; clear hp
        have hz : runL digB (s.data.toList.drop q) = n + 1 + runL digB (s.data.toList.drop (r + 1)) := by rw [HR.out, hd, runL_cons, HP.out, if_pos rfl]; omega
        have HZ := Lib.hid hz; clear hz hd
        have hq2 : partB s[r] = true := by rw [partB_eq, HP.out]; simp
        have HQ2 := Lib.hid hq2; clear hq2
        go_wp2_with fail
        refine (rpart_ok _ _).mono ?_
        rintro e w' ⟨rfl, rfl⟩
        rw [HQ2.out]
        go_wp2_with fail
        refine (rdigit_ok _ _).mono ?_
        rintro e w' ⟨rfl, rfl⟩
        rw [HP.out]
        go_wp2_with fail
        go_roundg (s.size - (r + 1))
        case measure => have := HM.out; omega
        case rel => exact ⟨n + 1, r + 1, by omega, by have := HN.out; omega, by go_num, rfl, HZ.out⟩
    · have hge : s.size ≤ r := by omega
      have hz : runL digB (s.data.toList.drop q) = n := by
        rw [HR.out, List.drop_eq_nil_of_le (by simpa using hge), runL_nil, Nat.add_zero]
      have HZ := Lib.hid hz; clear hz
      go_wp2_with fail
      go_ret
      exact ⟨ret_int (by rw [HZ.out]), rfl⟩

set_option maxHeartbeats 400000 in
theorem rrun_false_ok (s : ByteArray) (hs : s.size ≤ 16384) (q : Nat) (hq : q ≤ s.size) (w : World) : Calls Try.prog 27 #[.string s, .int .i64 (q : Int), .bool false] w fun e w' => e = .returned (.int .i64 (runL partB (s.data.toList.drop q) : Nat)) ∧ w = w' := by
  go_enter Try.func27, Try.ntmps27
  go_wp2_with fail
  go_loopg [7] (s.size - q) (fun m x wr => ∃ n r : Nat, m + r = s.size ∧ r = q + n ∧ x = .int .i64 (n : Int) ∧ wr = w ∧ runL partB (s.data.toList.drop q) = n + runL partB (s.data.toList.drop r))
  case atStart => exact ⟨0, q, by omega, rfl, rfl, rfl, by simp⟩
  case round =>
    obtain ⟨n, r, hmr, hrn, rfl, rfl, hrun⟩ := hrel
    have HM := Lib.hid hmr; have HR := Lib.hid hrun; have HN := Lib.hid hrn
    have hI : (q : Int) + (n : Int) = (r : Int) := by omega
    have hnl : n ≤ 16384 := by omega
    clear hmr hrun hrn
    by_cases hlt : r < s.size
    · have hd : s.data.toList.drop r = s[r] :: s.data.toList.drop (r + 1) := by
        rw [List.drop_eq_getElem_cons (by simpa using hlt)]; rfl
      cases hp : partB s[r]
      · have HP := Lib.hid hp; clear hp
        have hz : runL partB (s.data.toList.drop q) = n := by rw [HR.out, hd, runL_cons, HP.out]; simp
        have HZ := Lib.hid hz; clear hz hd
        go_wp2_with fail
        refine (rpart_ok _ _).mono ?_
        rintro e w' ⟨rfl, rfl⟩
        rw [HP.out]
        go_wp2_with fail
        go_ret
        exact ⟨ret_int (by rw [HZ.out]), rfl⟩
      · have HP := Lib.hid hp; clear hp
        have hz : runL partB (s.data.toList.drop q) = n + 1 + runL partB (s.data.toList.drop (r + 1)) := by rw [HR.out, hd, runL_cons, HP.out, if_pos rfl]; omega
        have HZ := Lib.hid hz; clear hz hd
        go_wp2_with fail
        refine (rpart_ok _ _).mono ?_
        rintro e w' ⟨rfl, rfl⟩
        rw [HP.out]
        go_wp2_with fail
        go_roundg (s.size - (r + 1))
        case measure => have := HM.out; omega
        case rel => exact ⟨n + 1, r + 1, by omega, by have := HN.out; omega, by go_num, rfl, HZ.out⟩
    · have hge : s.size ≤ r := by omega
      have hz : runL partB (s.data.toList.drop q) = n := by
        rw [HR.out, List.drop_eq_nil_of_le (by simpa using hge), runL_nil, Nat.add_zero]
      have HZ := Lib.hid hz; clear hz
      go_wp2_with fail
      go_ret
      exact ⟨ret_int (by rw [HZ.out]), rfl⟩
end Go.Proofs.Ytpapmkpcnoighaa
