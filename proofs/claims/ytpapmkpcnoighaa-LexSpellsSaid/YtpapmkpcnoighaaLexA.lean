/- The contracts of layer 10's inner functions: digit, part, run, mark, one. -/
import Derived.Test.YtpapmkpcnoighaaBase
import Derived.Test.YtpapmkpcnoighaaShelf
import Derived.Test.YtpapmkpcnoighaaLexP
import Derived.Conc.MuLone
namespace Go.Proofs.Ytpapmkpcnoighaa
open Go.RowKit LP

theorem u8_bd (c : UInt8) : c.toNat < 256 := c.toNat_lt
set_option maxHeartbeats 400000 in
theorem digit_ok (c : UInt8) (w : World) : Calls Try.prog 23 #[.int .u8 (c.toNat : Int)] w fun e w' => e = .returned (.bool (digB c)) ∧ w = w' := by
  have hb := u8_bd c
  have hs : digB c = (decide (48 ≤ c.toNat) && decide (c.toNat ≤ 57)) := rfl
  by_cases h1 : 48 ≤ c.toNat
  · by_cases h2 : c.toNat ≤ 57
    · have hd : digB c = true := by rw [hs]; simp [h1, h2]
      have HD := Lib.hid hd; clear hd hs
      go_enter Try.func23, Try.ntmps23
      go_wp2
      go_ret
      exact ⟨ret_bool (by first | exact HD.out.symm | (rw [HD.out]; done) | (rw [HD.out]; simp; done) | (rw [HD.out]; simp; omega)), rfl⟩
    · have hd : digB c = false := by rw [hs, decide_eq_false h2, Bool.and_false]
      have HD := Lib.hid hd; clear hd hs
      go_enter Try.func23, Try.ntmps23
      go_wp2
      go_ret
      exact ⟨ret_bool (by first | exact HD.out.symm | (rw [HD.out]; done) | (rw [HD.out]; simp; done) | (rw [HD.out]; simp; omega)), rfl⟩
  · have hd : digB c = false := by rw [hs, decide_eq_false h1, Bool.false_and]
    have HD := Lib.hid hd; clear hd hs
    go_enter Try.func23, Try.ntmps23
    go_wp2
    go_ret
    exact ⟨ret_bool (by first | exact HD.out.symm | (rw [HD.out]; done) | (rw [HD.out]; simp; done) | (rw [HD.out]; simp; omega)), rfl⟩

def partP (n : Nat) : Prop := (97 ≤ n ∧ n ≤ 122) ∨ (65 ≤ n ∧ n ≤ 90) ∨ n = 95
instance (n : Nat) : Decidable (partP n) := by unfold partP; exact inferInstance
theorem partB_eq (c : UInt8) : partB c = (decide (partP c.toNat) || digB c) := by
  have h : (partP c.toNat) ↔ ((97 ≤ c.toNat ∧ c.toNat ≤ 122) ∨ (65 ≤ c.toNat ∧ c.toNat ≤ 90) ∨ c.toNat = 95) := Iff.rfl
  rw [Bool.eq_iff_iff, Bool.or_eq_true, decide_eq_true_iff, h]
  unfold partB
  simp only [Bool.or_eq_true, Bool.and_eq_true, decide_eq_true_iff]
  constructor
  · intro hh; rcases hh with ((hh | hh) | hh) | hh
    all_goals first | exact Or.inl (Or.inl hh) | exact Or.inl (Or.inr (Or.inl hh)) | exact Or.inl (Or.inr (Or.inr hh)) | exact Or.inr hh
  · intro hh; rcases hh with (hh | hh | hh) | hh
    all_goals first | exact Or.inl (Or.inl (Or.inl hh)) | exact Or.inl (Or.inl (Or.inr hh)) | exact Or.inl (Or.inr hh) | exact Or.inr hh
theorem digB_eq (c : UInt8) : digB c = decide (48 ≤ c.toNat ∧ c.toNat ≤ 57) := by unfold digB; rw [Bool.eq_iff_iff]; simp
set_option maxHeartbeats 400000 in
theorem part_ok (c : UInt8) (w : World) : Calls Try.prog 24 #[.int .u8 (c.toNat : Int)] w fun e w' => e = .returned (.bool (partB c)) ∧ w = w' := by
  have hb := u8_bd c
  have HP := Lib.hid (partB_eq c)
  by_cases h : partP c.toNat
  · have HH := Lib.hid h
    have e : decide (partP c.toNat) = true := decide_eq_true h
    have HE := Lib.hid e
    unfold partP at h
    clear e
    rcases h with ⟨h1, h2⟩ | ⟨h1, h2⟩ | h1
    · go_enter Try.func24, Try.ntmps24
      go_wp2_with (go_at_call 23; refine (digit_ok _ _).mono ?_; rintro e w' ⟨rfl, rfl⟩)
      go_ret
      exact ⟨ret_bool (by rw [HP.out, HE.out]; first | done | (simp; done) | (simp; omega)), rfl⟩
    · go_enter Try.func24, Try.ntmps24
      go_wp2_with (go_at_call 23; refine (digit_ok _ _).mono ?_; rintro e w' ⟨rfl, rfl⟩)
      go_ret
      exact ⟨ret_bool (by rw [HP.out, HE.out]; first | done | (simp; done) | (simp; omega)), rfl⟩
    · have h3 : ((c.toNat : Int) == 95) = true := by rw [h1]; rfl
      have h4 : (90 : Int) < (c.toNat : Int) := by omega
      have h5 : (c.toNat : Int) < 97 := by omega
      clear h1
      go_enter Try.func24, Try.ntmps24
      go_wp2_with (go_at_call 23; refine (digit_ok _ _).mono ?_; rintro e w' ⟨rfl, rfl⟩)
      go_ret
      exact ⟨ret_bool (by rw [HP.out, HE.out]; first | done | (simp; done) | (simp; omega)), rfl⟩
  · have HH := Lib.hid h
    have e : decide (partP c.toNat) = false := decide_eq_false h
    have HE := Lib.hid e
    unfold partP at h
    clear e
    have hx : partB c = digB c := by rw [HP.out, HE.out]; rfl
    have HX := Lib.hid hx; clear hx
    have h3 : ((c.toNat : Int) == 95) = false := by rw [beq_eq_false_iff_ne]; omega
    go_enter Try.func24, Try.ntmps24
    go_wp2_with (go_at_call 23; refine (digit_ok _ _).mono ?_; rintro e w' ⟨rfl, rfl⟩)
    all_goals (first | (exfalso; omega) | skip)
    all_goals
      go_ret
      refine ⟨ret_bool ?_, rfl⟩
      have q1 : ((c.toNat : Int) ≤ 122 → ¬ (97 : Int) ≤ (c.toNat : Int)) := by omega
      have q2 : ((c.toNat : Int) ≤ 90 → ¬ (65 : Int) ≤ (c.toNat : Int)) := by omega
      first | (rw [HX.out]; done) | (rw [HX.out]; simp; done) | (rw [HX.out]; simp; omega)

/-! ### run, whatever is asked of a byte -/
set_option maxHeartbeats 400000 in
theorem run_ok (K : Nat) (P : UInt8 → Bool) (hK : ∀ (c : UInt8) (w : World), Calls Try.prog K #[.int .u8 (c.toNat : Int)] w fun e w' => e = .returned (.bool (P c)) ∧ w = w') (hcall : ∀ (args : Array Value) (w : World), (callFunc K args).run Try.prog w = .ok (.enter K args) w) (s : ByteArray) (hs : s.size ≤ maxLen) (w : World) :
    Calls Try.prog 14 #[.string s, .func (.func K) #[] #[]] w fun e w' => e = .returned (.int .i64 (runL P s.data.toList : Nat)) ∧ w = w' := by
  unfold maxLen at hs
  have HK := Lib.hid hK; clear hK
  go_enter Try.func14, Try.ntmps14
  go_wp2
  go_loopg [5] s.size (fun m x wr => ∃ k : Nat, m + k = s.size ∧ x = .int .i64 (k : Int) ∧ wr = w ∧ runL P s.data.toList = k + runL P (s.data.toList.drop k))
  case atStart => exact ⟨0, rfl, rfl, rfl, by simp⟩
  case round =>
    obtain ⟨k, hmk, rfl, rfl, hr⟩ := hrel
    have HM := Lib.hid hmk; have HR := Lib.hid hr; clear hmk hr
    by_cases hlt : k < s.size
    · have hd : s.data.toList.drop k = s[k] :: s.data.toList.drop (k + 1) := by
        rw [List.drop_eq_getElem_cons (by simpa using hlt)]; rfl
      cases hp : P s[k]
      · have HP := Lib.hid hp; clear hp
        have hz : runL P s.data.toList = k := by rw [HR.out, hd, runL_cons, HP.out]; simp
        have HZ := Lib.hid hz; clear hz hd
        go_wp2_with fail
        refine (HK.out _ _).mono ?_
        rintro e w' ⟨rfl, rfl⟩
        rw [HP.out]
        go_wp2_with fail
        go_ret
        exact ⟨ret_int (by rw [HZ.out]), rfl⟩
      · have HP := Lib.hid hp; clear hp
        have hz : runL P s.data.toList = k + 1 + runL P (s.data.toList.drop (k + 1)) := by rw [HR.out, hd, runL_cons, HP.out, if_pos rfl]; omega
        have HZ := Lib.hid hz; clear hz hd
        go_wp2_with fail
        refine (HK.out _ _).mono ?_
        rintro e w' ⟨rfl, rfl⟩
        rw [HP.out]
        go_wp2_with fail
        go_roundg (s.size - (k + 1))
        case measure => have := HM.out; omega
        case rel => exact ⟨k + 1, by omega, by go_num, rfl, HZ.out⟩
    · have hge : s.size ≤ k := by omega
      have hz : runL P s.data.toList = k := by
        rw [HR.out, List.drop_eq_nil_of_le (by simpa using hge), runL_nil, Nat.add_zero]
      have HZ := Lib.hid hz; clear hz
      go_wp2_with fail
      go_ret
      exact ⟨ret_int (by rw [HZ.out]), rfl⟩

theorem call_digit (args : Array Value) (w : World) : (callFunc 23 args).run Try.prog w = .ok (.enter 23 args) w := MuLone.run_callFunc_enter Try.func23 (by kernel_rfl) rfl args w
theorem call_part (args : Array Value) (w : World) : (callFunc 24 args).run Try.prog w = .ok (.enter 24 args) w := MuLone.run_callFunc_enter Try.func24 (by kernel_rfl) rfl args w
theorem run_digit (s : ByteArray) (hs : s.size ≤ maxLen) (w : World) : Calls Try.prog 14 #[.string s, .func (.func 23) #[] #[]] w fun e w' => e = .returned (.int .i64 (runL digB s.data.toList : Nat)) ∧ w = w' := run_ok 23 digB digit_ok call_digit s hs w
theorem run_part (s : ByteArray) (hs : s.size ≤ maxLen) (w : World) : Calls Try.prog 14 #[.string s, .func (.func 24) #[] #[]] w fun e w' => e = .returned (.int .i64 (runL partB s.data.toList : Nat)) ∧ w = w' := run_ok 24 partB part_ok call_part s hs w
end Go.Proofs.Ytpapmkpcnoighaa
