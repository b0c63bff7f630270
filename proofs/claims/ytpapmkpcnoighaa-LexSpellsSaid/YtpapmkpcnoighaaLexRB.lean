/- The reference's mark and one. Written by genlexrb.py. -/
import Derived.Test.YtpapmkpcnoighaaLexRA
import Derived.Laws.ResultCell
namespace Go.Proofs.Ytpapmkpcnoighaa
open Go.RowKit LP
def MK : List Nat := [40, 41, 123, 125, 44, 46, 59, 61, 33]
theorem markB_mk (c : UInt8) : markB c = true ↔ c.toNat ∈ MK := by unfold markB MK; simp
theorem mk_next {c : UInt8} {k : Nat} (h : ∀ j, j < k → c.toNat ≠ MK.getD j 0) (h2 : c.toNat ≠ MK.getD k 0) : ∀ j, j < k + 1 → c.toNat ≠ MK.getD j 0 := by
  intro j hj
  rcases Nat.lt_or_ge j k with h3 | h3
  · exact h j h3
  · have : j = k := by omega
    subst this; exact h2
theorem mk_all {c : UInt8} (h : ∀ j, j < 9 → c.toNat ≠ MK.getD j 0) : markB c = false := by
  rw [Bool.eq_false_iff]
  intro hb
  have hm := (markB_mk c).1 hb
  obtain ⟨j, hj, he⟩ := List.getElem_of_mem hm
  have hj9 : j < 9 := hj
  refine h j hj9 ?_
  rw [List.getD_eq_getElem?_getD, List.getElem?_eq_getElem hj]; exact he.symm
theorem two_eq (s : ByteArray) (q : Nat) (l : List UInt8) : ((s.extract q (q + 2)).toList = l) ↔ (s.data.toList.drop q).take 2 = l := by
  rw [Lib.extract_toList, show q + 2 - q = 2 by omega]
set_option maxHeartbeats 400000 in
theorem rmark_ok (s : ByteArray) (hs : s.size ≤ 16384) (q : Nat) (hq : q < s.size) (w : World) : Calls Try.prog 29 #[.string s, .int .i64 (q : Int)] w fun e w' => e = .returned (.int .i64 (markL (s.data.toList.drop q) : Nat)) ∧ Below w.heap.size w w' := by
  have hcell : (s.data.toList.drop q) = s[q] :: s.data.toList.drop (q + 1) := drop_at s.data.toList q (by rw [← Lib.size_eq]; exact hq)
  have hbd := u8_bd s[q]
  by_cases hm : (s.data.toList.drop q).take 2 = [58, 45] ∨ (s.data.toList.drop q).take 2 = [58, 58] ∨ (s.data.toList.drop q).take 2 = [33, 61]
  · have hr : markL (s.data.toList.drop q) = 2 := by unfold markL; rw [if_pos hm]
    have HR := Lib.hid hr; clear hr
    have hq1 : q + 1 < s.size := by
      have h9 : ((s.data.toList.drop q).take 2).length = 2 := by rcases hm with h | h | h <;> rw [h] <;> rfl
      rw [List.length_take, List.length_drop, ← Lib.size_eq] at h9; omega
    clear hcell
    rcases hm with h | h | h
    · have e0 := (two_eq s q [58, 45]).2 h
      clear h
      go_enter Try.func29, Try.ntmps29
      go_wp2_with fail
      go_ret
      exact ⟨ret_int (by rw [HR.out]; rfl), Below.refl _ _⟩
    · have e0 := (two_eq s q [58, 58]).2 h
      clear h
      go_enter Try.func29, Try.ntmps29
      go_wp2_with fail
      go_ret
      exact ⟨ret_int (by rw [HR.out]; rfl), Below.refl _ _⟩
    · have e0 := (two_eq s q [33, 61]).2 h
      clear h
      go_enter Try.func29, Try.ntmps29
      go_wp2_with fail
      go_ret
      exact ⟨ret_int (by rw [HR.out]; rfl), Below.refl _ _⟩
  · have he : markL (s.data.toList.drop q) = if markB s[q] then 1 else 0 := by
      unfold markL; rw [if_neg hm]; generalize s[q] = c at hcell ⊢; rw [hcell]
    have HE := Lib.hid he; clear he
    have n1 : ((s.extract q (q + 2)).toList == [58, 45]) = false := beq_eq_false_iff_ne.2 fun hh => hm (by have h := (two_eq s q _).1 hh; exact .inl h)
    have n2 : ((s.extract q (q + 2)).toList == [58, 58]) = false := beq_eq_false_iff_ne.2 fun hh => hm (by have h := (two_eq s q _).1 hh; exact .inr (.inl h))
    have n3 : ((s.extract q (q + 2)).toList == [33, 61]) = false := beq_eq_false_iff_ne.2 fun hh => hm (by have h := (two_eq s q _).1 hh; exact .inr (.inr h))
    clear hm hcell
    by_cases hq1 : q + 1 < s.size
    · go_enter Try.func29, Try.ntmps29
      go_wp2_with fail
      go_loopg [6] 9 (fun m x wr => ∃ k : Nat, m + k = 9 ∧ x = .int .i64 (k : Int) ∧ (∀ j, j < k → s[q].toNat ≠ MK.getD j 0) ∧ Below w.heap.size w wr)
      case atStart => exact ⟨0, rfl, rfl, fun j h => absurd h (by omega), Below.refl _ _⟩
      case round =>
        obtain ⟨k, hmk, rfl, hno, hB⟩ := hrel
        have HM := Lib.hid hmk; have HNO := Lib.hid hno; have HB := Lib.hid hB
        have hk : k = 0 ∨ k = 1 ∨ k = 2 ∨ k = 3 ∨ k = 4 ∨ k = 5 ∨ k = 6 ∨ k = 7 ∨ k = 8 ∨ k = 9 := by omega
        clear hmk hno hB
        rcases hk with rfl | rfl | rfl | rfl | rfl | rfl | rfl | rfl | rfl | rfl
        · by_cases hc : s[q].toNat = 40
          · have d : ((s[q].toNat : Int) == ((((⟨#[40, 41, 123, 125, 44, 46, 59, 61, 33]⟩ : ByteArray)[0]'(by decide)).toNat : Nat) : Int)) = true := by show ((s[q].toNat : Int) == 40) = true; rw [beq_iff_eq]; omega
            have hz : markL (s.data.toList.drop q) = 1 := by rw [HE.out, if_pos ((markB_mk _).2 (by rw [hc]; decide))]
            have HZ := Lib.hid hz
            clear hz hc
            go_wp2_with fail
            go_quiet (fail)
            go_wp2_with fail
            go_ret
            exact ⟨ret_int (by rw [HZ.out]; rfl), ⟨HB.out.os, HB.out.tape, HB.out.output, HB.out.size, HB.out.block⟩⟩
          · have d : ((s[q].toNat : Int) == ((((⟨#[40, 41, 123, 125, 44, 46, 59, 61, 33]⟩ : ByteArray)[0]'(by decide)).toNat : Nat) : Int)) = false := by show ((s[q].toNat : Int) == 40) = false; rw [beq_eq_false_iff_ne]; omega
            have HC := Lib.hid hc
            clear hc
            go_wp2_with fail
            go_quiet (fail)
            go_wp2_with fail
            go_roundg (8)
            case measure => have := HM.out; omega
            case rel => exact ⟨1, by omega, by go_num, mk_next HNO.out HC.out, ⟨HB.out.os, HB.out.tape, HB.out.output, HB.out.size, HB.out.block⟩⟩
        · by_cases hc : s[q].toNat = 41
          · have d : ((s[q].toNat : Int) == ((((⟨#[40, 41, 123, 125, 44, 46, 59, 61, 33]⟩ : ByteArray)[1]'(by decide)).toNat : Nat) : Int)) = true := by show ((s[q].toNat : Int) == 41) = true; rw [beq_iff_eq]; omega
            have hz : markL (s.data.toList.drop q) = 1 := by rw [HE.out, if_pos ((markB_mk _).2 (by rw [hc]; decide))]
            have HZ := Lib.hid hz
            clear hz hc
            go_wp2_with fail
            go_quiet (fail)
            go_wp2_with fail
            go_ret
            exact ⟨ret_int (by rw [HZ.out]; rfl), ⟨HB.out.os, HB.out.tape, HB.out.output, HB.out.size, HB.out.block⟩⟩
          · have d : ((s[q].toNat : Int) == ((((⟨#[40, 41, 123, 125, 44, 46, 59, 61, 33]⟩ : ByteArray)[1]'(by decide)).toNat : Nat) : Int)) = false := by show ((s[q].toNat : Int) == 41) = false; rw [beq_eq_false_iff_ne]; omega
            have HC := Lib.hid hc
            clear hc
            go_wp2_with fail
            go_quiet (fail)
            go_wp2_with fail
            go_roundg (7)
            case measure => have := HM.out; omega
            case rel => exact ⟨2, by omega, by go_num, mk_next HNO.out HC.out, ⟨HB.out.os, HB.out.tape, HB.out.output, HB.out.size, HB.out.block⟩⟩
        · by_cases hc : s[q].toNat = 123
          · have d : ((s[q].toNat : Int) == ((((⟨#[40, 41, 123, 125, 44, 46, 59, 61, 33]⟩ : ByteArray)[2]'(by decide)).toNat : Nat) : Int)) = true := by show ((s[q].toNat : Int) == 123) = true; rw [beq_iff_eq]; omega
            have hz : markL (s.data.toList.drop q) = 1 := by rw [HE.out, if_pos ((markB_mk _).2 (by rw [hc]; decide))]
            have HZ := Lib.hid hz
            clear hz hc
            go_wp2_with fail
            go_quiet (fail)
            go_wp2_with fail
            go_ret
            exact ⟨ret_int (by rw [HZ.out]; rfl), ⟨HB.out.os, HB.out.tape, HB.out.output, HB.out.size, HB.out.block⟩⟩
          · have d : ((s[q].toNat : Int) == ((((⟨#[40, 41, 123, 125, 44, 46, 59, 61, 33]⟩ : ByteArray)[2]'(by decide)).toNat : Nat) : Int)) = false := by show ((s[q].toNat : Int) == 123) = false; rw [beq_eq_false_iff_ne]; omega
            have HC := Lib.hid hc
            clear hc
            go_wp2_with fail
            go_quiet (fail)
            go_wp2_with fail
            go_roundg (6)
            case measure => have := HM.out; omega
            case rel => exact ⟨3, by omega, by go_num, mk_next HNO.out HC.out, ⟨HB.out.os, HB.out.tape, HB.out.output, HB.out.size, HB.out.block⟩⟩
        · by_cases hc : s[q].toNat = 125
          · have d : ((s[q].toNat : Int) == ((((⟨#[40, 41, 123, 125, 44, 46, 59, 61, 33]⟩ : ByteArray)[3]'(by decide)).toNat : Nat) : Int)) = true := by show ((s[q].toNat : Int) == 125) = true; rw [beq_iff_eq]; omega
            have hz : markL (s.data.toList.drop q) = 1 := by rw [HE.out, if_pos ((markB_mk _).2 (by rw [hc]; decide))]
            have HZ := Lib.hid hz
            clear hz hc
            go_wp2_with fail
            go_quiet (fail)
            go_wp2_with fail
            go_ret
            exact ⟨ret_int (by rw [HZ.out]; rfl), ⟨HB.out.os, HB.out.tape, HB.out.output, HB.out.size, HB.out.block⟩⟩
          · have d : ((s[q].toNat : Int) == ((((⟨#[40, 41, 123, 125, 44, 46, 59, 61, 33]⟩ : ByteArray)[3]'(by decide)).toNat : Nat) : Int)) = false := by show ((s[q].toNat : Int) == 125) = false; rw [beq_eq_false_iff_ne]; omega
            have HC := Lib.hid hc
            clear hc
            go_wp2_with fail
            go_quiet (fail)
            go_wp2_with fail
            go_roundg (5)
            case measure => have := HM.out; omega
            case rel => exact ⟨4, by omega, by go_num, mk_next HNO.out HC.out, ⟨HB.out.os, HB.out.tape, HB.out.output, HB.out.size, HB.out.block⟩⟩
        · by_cases hc : s[q].toNat = 44
          · have d : ((s[q].toNat : Int) == ((((⟨#[40, 41, 123, 125, 44, 46, 59, 61, 33]⟩ : ByteArray)[4]'(by decide)).toNat : Nat) : Int)) = true := by show ((s[q].toNat : Int) == 44) = true; rw [beq_iff_eq]; omega
            have hz : markL (s.data.toList.drop q) = 1 := by rw [HE.out, if_pos ((markB_mk _).2 (by rw [hc]; decide))]
            have HZ := Lib.hid hz
            clear hz hc
            go_wp2_with fail
            go_quiet (fail)
            go_wp2_with fail
            go_ret
            exact ⟨ret_int (by rw [HZ.out]; rfl), ⟨HB.out.os, HB.out.tape, HB.out.output, HB.out.size, HB.out.block⟩⟩
          · have d : ((s[q].toNat : Int) == ((((⟨#[40, 41, 123, 125, 44, 46, 59, 61, 33]⟩ : ByteArray)[4]'(by decide)).toNat : Nat) : Int)) = false := by show ((s[q].toNat : Int) == 44) = false; rw [beq_eq_false_iff_ne]; omega
            have HC := Lib.hid hc
            clear hc
            go_wp2_with fail
            go_quiet (fail)
            go_wp2_with fail
            go_roundg (4)
            case measure => have := HM.out; omega
            case rel => exact ⟨5, by omega, by go_num, mk_next HNO.out HC.out, ⟨HB.out.os, HB.out.tape, HB.out.output, HB.out.size, HB.out.block⟩⟩
        · by_cases hc : s[q].toNat = 46
          · have d : ((s[q].toNat : Int) == ((((⟨#[40, 41, 123, 125, 44, 46, 59, 61, 33]⟩ : ByteArray)[5]'(by decide)).toNat : Nat) : Int)) = true := by show ((s[q].toNat : Int) == 46) = true; rw [beq_iff_eq]; omega
            have hz : markL (s.data.toList.drop q) = 1 := by rw [HE.out, if_pos ((markB_mk _).2 (by rw [hc]; decide))]
            have HZ := Lib.hid hz
            clear hz hc
            go_wp2_with fail
            go_quiet (fail)
            go_wp2_with fail
            go_ret
            exact ⟨ret_int (by rw [HZ.out]; rfl), ⟨HB.out.os, HB.out.tape, HB.out.output, HB.out.size, HB.out.block⟩⟩
          · have d : ((s[q].toNat : Int) == ((((⟨#[40, 41, 123, 125, 44, 46, 59, 61, 33]⟩ : ByteArray)[5]'(by decide)).toNat : Nat) : Int)) = false := by show ((s[q].toNat : Int) == 46) = false; rw [beq_eq_false_iff_ne]; omega
            have HC := Lib.hid hc
            clear hc
            go_wp2_with fail
            go_quiet (fail)
            go_wp2_with fail
            go_roundg (3)
            case measure => have := HM.out; omega
            case rel => exact ⟨6, by omega, by go_num, mk_next HNO.out HC.out, ⟨HB.out.os, HB.out.tape, HB.out.output, HB.out.size, HB.out.block⟩⟩
        · by_cases hc : s[q].toNat = 59
          · have d : ((s[q].toNat : Int) == ((((⟨#[40, 41, 123, 125, 44, 46, 59, 61, 33]⟩ : ByteArray)[6]'(by decide)).toNat : Nat) : Int)) = true := by show ((s[q].toNat : Int) == 59) = true; rw [beq_iff_eq]; omega
            have hz : markL (s.data.toList.drop q) = 1 := by rw [HE.out, if_pos ((markB_mk _).2 (by rw [hc]; decide))]
            have HZ := Lib.hid hz
            clear hz hc
            go_wp2_with fail
            go_quiet (fail)
            go_wp2_with fail
            go_ret
            exact ⟨ret_int (by rw [HZ.out]; rfl), ⟨HB.out.os, HB.out.tape, HB.out.output, HB.out.size, HB.out.block⟩⟩
          · have d : ((s[q].toNat : Int) == ((((⟨#[40, 41, 123, 125, 44, 46, 59, 61, 33]⟩ : ByteArray)[6]'(by decide)).toNat : Nat) : Int)) = false := by show ((s[q].toNat : Int) == 59) = false; rw [beq_eq_false_iff_ne]; omega
            have HC := Lib.hid hc
            clear hc
            go_wp2_with fail
            go_quiet (fail)
            go_wp2_with fail
            go_roundg (2)
            case measure => have := HM.out; omega
            case rel => exact ⟨7, by omega, by go_num, mk_next HNO.out HC.out, ⟨HB.out.os, HB.out.tape, HB.out.output, HB.out.size, HB.out.block⟩⟩
        · by_cases hc : s[q].toNat = 61
          · have d : ((s[q].toNat : Int) == ((((⟨#[40, 41, 123, 125, 44, 46, 59, 61, 33]⟩ : ByteArray)[7]'(by decide)).toNat : Nat) : Int)) = true := by show ((s[q].toNat : Int) == 61) = true; rw [beq_iff_eq]; omega
            have hz : markL (s.data.toList.drop q) = 1 := by rw [HE.out, if_pos ((markB_mk _).2 (by rw [hc]; decide))]
            have HZ := Lib.hid hz
            clear hz hc
            go_wp2_with fail
            go_quiet (fail)
            go_wp2_with fail
            go_ret
            exact ⟨ret_int (by rw [HZ.out]; rfl), ⟨HB.out.os, HB.out.tape, HB.out.output, HB.out.size, HB.out.block⟩⟩
          · have d : ((s[q].toNat : Int) == ((((⟨#[40, 41, 123, 125, 44, 46, 59, 61, 33]⟩ : ByteArray)[7]'(by decide)).toNat : Nat) : Int)) = false := by show ((s[q].toNat : Int) == 61) = false; rw [beq_eq_false_iff_ne]; omega
            have HC := Lib.hid hc
            clear hc
            go_wp2_with fail
            go_quiet (fail)
            go_wp2_with fail
            go_roundg (1)
            case measure => have := HM.out; omega
            case rel => exact ⟨8, by omega, by go_num, mk_next HNO.out HC.out, ⟨HB.out.os, HB.out.tape, HB.out.output, HB.out.size, HB.out.block⟩⟩
        · by_cases hc : s[q].toNat = 33
          · have d : ((s[q].toNat : Int) == ((((⟨#[40, 41, 123, 125, 44, 46, 59, 61, 33]⟩ : ByteArray)[8]'(by decide)).toNat : Nat) : Int)) = true := by show ((s[q].toNat : Int) == 33) = true; rw [beq_iff_eq]; omega
            have hz : markL (s.data.toList.drop q) = 1 := by rw [HE.out, if_pos ((markB_mk _).2 (by rw [hc]; decide))]
            have HZ := Lib.hid hz
            clear hz hc
            go_wp2_with fail
            go_quiet (fail)
            go_wp2_with fail
            go_ret
            exact ⟨ret_int (by rw [HZ.out]; rfl), ⟨HB.out.os, HB.out.tape, HB.out.output, HB.out.size, HB.out.block⟩⟩
          · have d : ((s[q].toNat : Int) == ((((⟨#[40, 41, 123, 125, 44, 46, 59, 61, 33]⟩ : ByteArray)[8]'(by decide)).toNat : Nat) : Int)) = false := by show ((s[q].toNat : Int) == 33) = false; rw [beq_eq_false_iff_ne]; omega
            have HC := Lib.hid hc
            clear hc
            go_wp2_with fail
            go_quiet (fail)
            go_wp2_with fail
            go_roundg (0)
            case measure => have := HM.out; omega
            case rel => exact ⟨9, by omega, by go_num, mk_next HNO.out HC.out, ⟨HB.out.os, HB.out.tape, HB.out.output, HB.out.size, HB.out.block⟩⟩
        · have hz : markL (s.data.toList.drop q) = 0 := by rw [HE.out, mk_all HNO.out]; rfl
          have HZ := Lib.hid hz
          clear hz
          go_wp2_with fail
          go_ret
          exact ⟨ret_int (by rw [HZ.out]; rfl), HB.out⟩
    · go_enter Try.func29, Try.ntmps29
      go_wp2_with fail
      go_loopg [6] 9 (fun m x wr => ∃ k : Nat, m + k = 9 ∧ x = .int .i64 (k : Int) ∧ (∀ j, j < k → s[q].toNat ≠ MK.getD j 0) ∧ Below w.heap.size w wr)
      case atStart => exact ⟨0, rfl, rfl, fun j h => absurd h (by omega), Below.refl _ _⟩
      case round =>
        obtain ⟨k, hmk, rfl, hno, hB⟩ := hrel
        have HM := Lib.hid hmk; have HNO := Lib.hid hno; have HB := Lib.hid hB
        have hk : k = 0 ∨ k = 1 ∨ k = 2 ∨ k = 3 ∨ k = 4 ∨ k = 5 ∨ k = 6 ∨ k = 7 ∨ k = 8 ∨ k = 9 := by omega
        clear hmk hno hB
        rcases hk with rfl | rfl | rfl | rfl | rfl | rfl | rfl | rfl | rfl | rfl
        · by_cases hc : s[q].toNat = 40
          · have d : ((s[q].toNat : Int) == ((((⟨#[40, 41, 123, 125, 44, 46, 59, 61, 33]⟩ : ByteArray)[0]'(by decide)).toNat : Nat) : Int)) = true := by show ((s[q].toNat : Int) == 40) = true; rw [beq_iff_eq]; omega
            have hz : markL (s.data.toList.drop q) = 1 := by rw [HE.out, if_pos ((markB_mk _).2 (by rw [hc]; decide))]
            have HZ := Lib.hid hz
            clear hz hc
            go_wp2_with fail
            go_quiet (fail)
            go_wp2_with fail
            go_ret
            exact ⟨ret_int (by rw [HZ.out]; rfl), ⟨HB.out.os, HB.out.tape, HB.out.output, HB.out.size, HB.out.block⟩⟩
          · have d : ((s[q].toNat : Int) == ((((⟨#[40, 41, 123, 125, 44, 46, 59, 61, 33]⟩ : ByteArray)[0]'(by decide)).toNat : Nat) : Int)) = false := by show ((s[q].toNat : Int) == 40) = false; rw [beq_eq_false_iff_ne]; omega
            have HC := Lib.hid hc
            clear hc
            go_wp2_with fail
            go_quiet (fail)
            go_wp2_with fail
            go_roundg (8)
            case measure => have := HM.out; omega
            case rel => exact ⟨1, by omega, by go_num, mk_next HNO.out HC.out, ⟨HB.out.os, HB.out.tape, HB.out.output, HB.out.size, HB.out.block⟩⟩
        · by_cases hc : s[q].toNat = 41
          · have d : ((s[q].toNat : Int) == ((((⟨#[40, 41, 123, 125, 44, 46, 59, 61, 33]⟩ : ByteArray)[1]'(by decide)).toNat : Nat) : Int)) = true := by show ((s[q].toNat : Int) == 41) = true; rw [beq_iff_eq]; omega
            have hz : markL (s.data.toList.drop q) = 1 := by rw [HE.out, if_pos ((markB_mk _).2 (by rw [hc]; decide))]
            have HZ := Lib.hid hz
            clear hz hc
            go_wp2_with fail
            go_quiet (fail)
            go_wp2_with fail
            go_ret
            exact ⟨ret_int (by rw [HZ.out]; rfl), ⟨HB.out.os, HB.out.tape, HB.out.output, HB.out.size, HB.out.block⟩⟩
          · have d : ((s[q].toNat : Int) == ((((⟨#[40, 41, 123, 125, 44, 46, 59, 61, 33]⟩ : ByteArray)[1]'(by decide)).toNat : Nat) : Int)) = false := by show ((s[q].toNat : Int) == 41) = false; rw [beq_eq_false_iff_ne]; omega
            have HC := Lib.hid hc
            clear hc
            go_wp2_with fail
            go_quiet (fail)
            go_wp2_with fail
            go_roundg (7)
            case measure => have := HM.out; omega
            case rel => exact ⟨2, by omega, by go_num, mk_next HNO.out HC.out, ⟨HB.out.os, HB.out.tape, HB.out.output, HB.out.size, HB.out.block⟩⟩
        · by_cases hc : s[q].toNat = 123
          · have d : ((s[q].toNat : Int) == ((((⟨#[40, 41, 123, 125, 44, 46, 59, 61, 33]⟩ : ByteArray)[2]'(by decide)).toNat : Nat) : Int)) = true := by show ((s[q].toNat : Int) == 123) = true; rw [beq_iff_eq]; omega
            have hz : markL (s.data.toList.drop q) = 1 := by rw [HE.out, if_pos ((markB_mk _).2 (by rw [hc]; decide))]
            have HZ := Lib.hid hz
            clear hz hc
            go_wp2_with fail
            go_quiet (fail)
            go_wp2_with fail
            go_ret
            exact ⟨ret_int (by rw [HZ.out]; rfl), ⟨HB.out.os, HB.out.tape, HB.out.output, HB.out.size, HB.out.block⟩⟩
          · have d : ((s[q].toNat : Int) == ((((⟨#[40, 41, 123, 125, 44, 46, 59, 61, 33]⟩ : ByteArray)[2]'(by decide)).toNat : Nat) : Int)) = false := by show ((s[q].toNat : Int) == 123) = false; rw [beq_eq_false_iff_ne]; omega
            have HC := Lib.hid hc
            clear hc
            go_wp2_with fail
            go_quiet (fail)
            go_wp2_with fail
            go_roundg (6)
            case measure => have := HM.out; omega
            case rel => exact ⟨3, by omega, by go_num, mk_next HNO.out HC.out, ⟨HB.out.os, HB.out.tape, HB.out.output, HB.out.size, HB.out.block⟩⟩
        · by_cases hc : s[q].toNat = 125
          · have d : ((s[q].toNat : Int) == ((((⟨#[40, 41, 123, 125, 44, 46, 59, 61, 33]⟩ : ByteArray)[3]'(by decide)).toNat : Nat) : Int)) = true := by show ((s[q].toNat : Int) == 125) = true; rw [beq_iff_eq]; omega
            have hz : markL (s.data.toList.drop q) = 1 := by rw [HE.out, if_pos ((markB_mk _).2 (by rw [hc]; decide))]
            have HZ := Lib.hid hz
            clear hz hc
            go_wp2_with fail
            go_quiet (fail)
            go_wp2_with fail
            go_ret
            exact ⟨ret_int (by rw [HZ.out]; rfl), ⟨HB.out.os, HB.out.tape, HB.out.output, HB.out.size, HB.out.block⟩⟩
          · have d : ((s[q].toNat : Int) == ((((⟨#[40, 41, 123, 125, 44, 46, 59, 61, 33]⟩ : ByteArray)[3]'(by decide)).toNat : Nat) : Int)) = false := by show ((s[q].toNat : Int) == 125) = false; rw [beq_eq_false_iff_ne]; omega
            have HC := Lib.hid hc
            clear hc
            go_wp2_with fail
            go_quiet (fail)
            go_wp2_with fail
            go_roundg (5)
            case measure => have := HM.out; omega
            case rel => exact ⟨4, by omega, by go_num, mk_next HNO.out HC.out, ⟨HB.out.os, HB.out.tape, HB.out.output, HB.out.size, HB.out.block⟩⟩
        · by_cases hc : s[q].toNat = 44
          · have d : ((s[q].toNat : Int) == ((((⟨#[40, 41, 123, 125, 44, 46, 59, 61, 33]⟩ : ByteArray)[4]'(by decide)).toNat : Nat) : Int)) = true := by show ((s[q].toNat : Int) == 44) = true; rw [beq_iff_eq]; omega
            have hz : markL (s.data.toList.drop q) = 1 := by rw [HE.out, if_pos ((markB_mk _).2 (by rw [hc]; decide))]
            have HZ := Lib.hid hz
            clear hz hc
            go_wp2_with fail
            go_quiet (fail)
            go_wp2_with fail
            go_ret
            exact ⟨ret_int (by rw [HZ.out]; rfl), ⟨HB.out.os, HB.out.tape, HB.out.output, HB.out.size, HB.out.block⟩⟩
          · have d : ((s[q].toNat : Int) == ((((⟨#[40, 41, 123, 125, 44, 46, 59, 61, 33]⟩ : ByteArray)[4]'(by decide)).toNat : Nat) : Int)) = false := by show ((s[q].toNat : Int) == 44) = false; rw [beq_eq_false_iff_ne]; omega
            have HC := Lib.hid hc
            clear hc
            go_wp2_with fail
            go_quiet (fail)
            go_wp2_with fail
            go_roundg (4)
            case measure => have := HM.out; omega
            case rel => exact ⟨5, by omega, by go_num, mk_next HNO.out HC.out, ⟨HB.out.os, HB.out.tape, HB.out.output, HB.out.size, HB.out.block⟩⟩
        · by_cases hc : s[q].toNat = 46
          · have d : ((s[q].toNat : Int) == ((((⟨#[40, 41, 123, 125, 44, 46, 59, 61, 33]⟩ : ByteArray)[5]'(by decide)).toNat : Nat) : Int)) = true := by show ((s[q].toNat : Int) == 46) = true; rw [beq_iff_eq]; omega
            have hz : markL (s.data.toList.drop q) = 1 := by rw [HE.out, if_pos ((markB_mk _).2 (by rw [hc]; decide))]
            have HZ := Lib.hid hz
            clear hz hc
            go_wp2_with fail
            go_quiet (fail)
            go_wp2_with fail
            go_ret
            exact ⟨ret_int (by rw [HZ.out]; rfl), ⟨HB.out.os, HB.out.tape, HB.out.output, HB.out.size, HB.out.block⟩⟩
          · have d : ((s[q].toNat : Int) == ((((⟨#[40, 41, 123, 125, 44, 46, 59, 61, 33]⟩ : ByteArray)[5]'(by decide)).toNat : Nat) : Int)) = false := by show ((s[q].toNat : Int) == 46) = false; rw [beq_eq_false_iff_ne]; omega
            have HC := Lib.hid hc
            clear hc
            go_wp2_with fail
            go_quiet (fail)
            go_wp2_with fail
            go_roundg (3)
            case measure => have := HM.out; omega
            case rel => exact ⟨6, by omega, by go_num, mk_next HNO.out HC.out, ⟨HB.out.os, HB.out.tape, HB.out.output, HB.out.size, HB.out.block⟩⟩
        · by_cases hc : s[q].toNat = 59
          · have d : ((s[q].toNat : Int) == ((((⟨#[40, 41, 123, 125, 44, 46, 59, 61, 33]⟩ : ByteArray)[6]'(by decide)).toNat : Nat) : Int)) = true := by show ((s[q].toNat : Int) == 59) = true; rw [beq_iff_eq]; omega
            have hz : markL (s.data.toList.drop q) = 1 := by rw [HE.out, if_pos ((markB_mk _).2 (by rw [hc]; decide))]
            have HZ := Lib.hid hz
            clear hz hc
            go_wp2_with fail
            go_quiet (fail)
            go_wp2_with fail
            go_ret
            exact ⟨ret_int (by rw [HZ.out]; rfl), ⟨HB.out.os, HB.out.tape, HB.out.output, HB.out.size, HB.out.block⟩⟩
          · have d : ((s[q].toNat : Int) == ((((⟨#[40, 41, 123, 125, 44, 46, 59, 61, 33]⟩ : ByteArray)[6]'(by decide)).toNat : Nat) : Int)) = false := by show ((s[q].toNat : Int) == 59) = false; rw [beq_eq_false_iff_ne]; omega
            have HC := Lib.hid hc
            clear hc
            go_wp2_with fail
            go_quiet (fail)
            go_wp2_with fail
            go_roundg (2)
            case measure => have := HM.out; omega
            case rel => exact ⟨7, by omega, by go_num, mk_next HNO.out HC.out, ⟨HB.out.os, HB.out.tape, HB.out.output, HB.out.size, HB.out.block⟩⟩
        · by_cases hc : s[q].toNat = 61
          · have d : ((s[q].toNat : Int) == ((((⟨#[40, 41, 123, 125, 44, 46, 59, 61, 33]⟩ : ByteArray)[7]'(by decide)).toNat : Nat) : Int)) = true := by show ((s[q].toNat : Int) == 61) = true; rw [beq_iff_eq]; omega
            have hz : markL (s.data.toList.drop q) = 1 := by rw [HE.out, if_pos ((markB_mk _).2 (by rw [hc]; decide))]
            have HZ := Lib.hid hz
            clear hz hc
            go_wp2_with fail
            go_quiet (fail)
            go_wp2_with fail
            go_ret
            exact ⟨ret_int (by rw [HZ.out]; rfl), ⟨HB.out.os, HB.out.tape, HB.out.output, HB.out.size, HB.out.block⟩⟩
          · have d : ((s[q].toNat : Int) == ((((⟨#[40, 41, 123, 125, 44, 46, 59, 61, 33]⟩ : ByteArray)[7]'(by decide)).toNat : Nat) : Int)) = false := by show ((s[q].toNat : Int) == 61) = false; rw [beq_eq_false_iff_ne]; omega
            have HC := Lib.hid hc
            clear hc
            go_wp2_with fail
            go_quiet (fail)
            go_wp2_with fail
            go_roundg (1)
            case measure => have := HM.out; omega
            case rel => exact ⟨8, by omega, by go_num, mk_next HNO.out HC.out, ⟨HB.out.os, HB.out.tape, HB.out.output, HB.out.size, HB.out.block⟩⟩
        · by_cases hc : s[q].toNat = 33
          · have d : ((s[q].toNat : Int) == ((((⟨#[40, 41, 123, 125, 44, 46, 59, 61, 33]⟩ : ByteArray)[8]'(by decide)).toNat : Nat) : Int)) = true := by show ((s[q].toNat : Int) == 33) = true; rw [beq_iff_eq]; omega
            have hz : markL (s.data.toList.drop q) = 1 := by rw [HE.out, if_pos ((markB_mk _).2 (by rw [hc]; decide))]
            have HZ := Lib.hid hz
            clear hz hc
            go_wp2_with fail
            go_quiet (fail)
            go_wp2_with fail
            go_ret
            exact ⟨ret_int (by rw [HZ.out]; rfl), ⟨HB.out.os, HB.out.tape, HB.out.output, HB.out.size, HB.out.block⟩⟩
          · have d : ((s[q].toNat : Int) == ((((⟨#[40, 41, 123, 125, 44, 46, 59, 61, 33]⟩ : ByteArray)[8]'(by decide)).toNat : Nat) : Int)) = false := by show ((s[q].toNat : Int) == 33) = false; rw [beq_eq_false_iff_ne]; omega
            have HC := Lib.hid hc
            clear hc
            go_wp2_with fail
            go_quiet (fail)
            go_wp2_with fail
            go_roundg (0)
            case measure => have := HM.out; omega
            case rel => exact ⟨9, by omega, by go_num, mk_next HNO.out HC.out, ⟨HB.out.os, HB.out.tape, HB.out.output, HB.out.size, HB.out.block⟩⟩
        · have hz : markL (s.data.toList.drop q) = 0 := by rw [HE.out, mk_all HNO.out]; rfl
          have HZ := Lib.hid hz
          clear hz
          go_wp2_with fail
          go_ret
          exact ⟨ret_int (by rw [HZ.out]; rfl), HB.out⟩
end Go.Proofs.Ytpapmkpcnoighaa
