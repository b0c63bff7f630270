/- mark, one -/
import Derived.Test.YtpapmkpcnoighaaLexA
import Derived.Lib.IndexAny
namespace Go.Proofs.Ytpapmkpcnoighaa
open Go.RowKit LP
theorem pre2 (s : List UInt8) (a b : UInt8) : Lib.hasPrefix s [a, b] = decide (s.take 2 = [a, b]) := by
  unfold Lib.hasPrefix
  match s with
  | [] => simp
  | [x] => simp [List.isPrefixOf]
  | x :: y :: t =>
    have h : (x :: y :: t).take 2 = [x, y] := rfl
    rw [h]; simp [List.isPrefixOf, Bool.beq_eq_decide_eq, eq_comm]
theorem idx_marks (c : UInt8) : decide (0 ≤ Lib.indexByte [40, 41, 123, 125, 44, 46, 59, 61, 33] c) = markB c := by
  rw [← Lib.contains_iff_indexByte]
  unfold markB
  simp [← UInt8.toNat_inj]
theorem idx_blanks (c : UInt8) : decide (0 ≤ Lib.indexByte [32, 9, 10, 13] c) = blankB c := by
  rw [← Lib.contains_iff_indexByte]
  unfold blankB
  have h : ∀ d : UInt8, (c == d) = decide (c.toNat = d.toNat) := fun d => by rw [Bool.eq_iff_iff, beq_iff_eq, decide_eq_true_iff, UInt8.toNat_inj]
  simp only [List.contains_cons, List.contains_nil, Bool.or_false, Bool.or_assoc, h]
  rfl
set_option maxHeartbeats 400000 in
theorem mark_ok (s : ByteArray) (h0 : 0 < s.size) (_hs : s.size ≤ maxLen) (w : World) : Calls Try.prog 25 #[.string s] w fun e w' => e = .returned (.int .i64 (markL s.data.toList : Nat)) ∧ Below w.heap.size w w' := by
  go_enter Try.func25, Try.ntmps25
  have q1 := Lib.hid (pre2 s.data.toList 58 45)
  have q2 := Lib.hid (pre2 s.data.toList 58 58)
  have q3 := Lib.hid (pre2 s.data.toList 33 61)
  go_wp2
  go_loopg [7] 3 (fun m x wr => ∃ k : Nat, m + k = 3 ∧ x = .int .i64 (k : Int) ∧ (0 < k → ¬ s.data.toList.take 2 = [58, 45]) ∧ (1 < k → ¬ s.data.toList.take 2 = [58, 58]) ∧ (2 < k → ¬ s.data.toList.take 2 = [33, 61]) ∧ wr.cell? ⟨w.heap.size, 0, none⟩ = some (.string ⟨#[58, 45]⟩) ∧ wr.cell? ⟨w.heap.size, 1, none⟩ = some (.string ⟨#[58, 58]⟩) ∧ wr.cell? ⟨w.heap.size, 2, none⟩ = some (.string ⟨#[33, 61]⟩) ∧ Below w.heap.size w wr)
  case atStart =>
    refine ⟨0, rfl, rfl, fun x => absurd x (by omega), fun x => absurd x (by omega), fun x => absurd x (by omega), ?_, ?_, ?_, ?_⟩
    · exact World.cell?_alloc_new ..
    · exact World.cell?_alloc_new ..
    · exact World.cell?_alloc_new ..
    · exact (Below.refl _ _).alloc (Nat.le_refl _) _
  case round =>
    obtain ⟨k, hmk, rfl, h1, h2, h3, c1, c2, c3, hB⟩ := hrel
    have HM := Lib.hid hmk; have H1 := Lib.hid h1; have H2 := Lib.hid h2; have H3 := Lib.hid h3; have HB := Lib.hid hB
    clear h1 h2 h3 hB
    have hk : k = 0 ∨ k = 1 ∨ k = 2 ∨ k = 3 := by omega
    rcases hk with rfl | rfl | rfl | rfl
    · by_cases h : s.data.toList.take 2 = [58, 45]
      · have e : Lib.hasPrefix s.data.toList [58, 45] = true := by rw [q1.out]; exact decide_eq_true h
        have he : markL s.data.toList = 2 := by unfold markL; rw [if_pos]; first | exact .inl h | exact .inr (.inl h) | exact .inr (.inr h)
        have E := Lib.hid e; have HE := Lib.hid he; clear e he h
        go_wp2_with fail
        refine (Try.strings_HasPrefix _ _ _).mono ?_
        rintro e w' ⟨rfl, rfl⟩
        rw [E.out]
        go_wp2_with fail
        go_ret
        exact ⟨ret_int (by rw [HE.out]; rfl), HB.out⟩
      · have e : Lib.hasPrefix s.data.toList [58, 45] = false := by rw [q1.out]; exact decide_eq_false h
        have E := Lib.hid e; have NH := Lib.hid h; clear e h
        go_wp2_with fail
        refine (Try.strings_HasPrefix _ _ _).mono ?_
        rintro e w' ⟨rfl, rfl⟩
        rw [E.out]
        go_wp2_with fail
        go_roundg (2)
        case measure => have := HM.out; omega
        case rel => exact ⟨1, by omega, by go_num, fun x => by first | exact NH.out | exact H1.out (by omega), fun x => by first | exact NH.out | exact H2.out (by omega) | omega, fun x => by first | exact NH.out | exact H3.out (by omega) | omega, c1, c2, c3, HB.out⟩
    · by_cases h : s.data.toList.take 2 = [58, 58]
      · have e : Lib.hasPrefix s.data.toList [58, 58] = true := by rw [q2.out]; exact decide_eq_true h
        have he : markL s.data.toList = 2 := by unfold markL; rw [if_pos]; first | exact .inl h | exact .inr (.inl h) | exact .inr (.inr h)
        have E := Lib.hid e; have HE := Lib.hid he; clear e he h
        go_wp2_with fail
        refine (Try.strings_HasPrefix _ _ _).mono ?_
        rintro e w' ⟨rfl, rfl⟩
        rw [E.out]
        go_wp2_with fail
        go_ret
        exact ⟨ret_int (by rw [HE.out]; rfl), HB.out⟩
      · have e : Lib.hasPrefix s.data.toList [58, 58] = false := by rw [q2.out]; exact decide_eq_false h
        have E := Lib.hid e; have NH := Lib.hid h; clear e h
        go_wp2_with fail
        refine (Try.strings_HasPrefix _ _ _).mono ?_
        rintro e w' ⟨rfl, rfl⟩
        rw [E.out]
        go_wp2_with fail
        go_roundg (1)
        case measure => have := HM.out; omega
        case rel => exact ⟨2, by omega, by go_num, fun x => by first | exact NH.out | exact H1.out (by omega), fun x => by first | exact NH.out | exact H2.out (by omega) | omega, fun x => by first | exact NH.out | exact H3.out (by omega) | omega, c1, c2, c3, HB.out⟩
    · by_cases h : s.data.toList.take 2 = [33, 61]
      · have e : Lib.hasPrefix s.data.toList [33, 61] = true := by rw [q3.out]; exact decide_eq_true h
        have he : markL s.data.toList = 2 := by unfold markL; rw [if_pos]; first | exact .inl h | exact .inr (.inl h) | exact .inr (.inr h)
        have E := Lib.hid e; have HE := Lib.hid he; clear e he h
        go_wp2_with fail
        refine (Try.strings_HasPrefix _ _ _).mono ?_
        rintro e w' ⟨rfl, rfl⟩
        rw [E.out]
        go_wp2_with fail
        go_ret
        exact ⟨ret_int (by rw [HE.out]; rfl), HB.out⟩
      · have e : Lib.hasPrefix s.data.toList [33, 61] = false := by rw [q3.out]; exact decide_eq_false h
        have E := Lib.hid e; have NH := Lib.hid h; clear e h
        go_wp2_with fail
        refine (Try.strings_HasPrefix _ _ _).mono ?_
        rintro e w' ⟨rfl, rfl⟩
        rw [E.out]
        go_wp2_with fail
        go_roundg (0)
        case measure => have := HM.out; omega
        case rel => exact ⟨3, by omega, by go_num, fun x => by first | exact NH.out | exact H1.out (by omega), fun x => by first | exact NH.out | exact H2.out (by omega) | omega, fun x => by first | exact NH.out | exact H3.out (by omega) | omega, c1, c2, c3, HB.out⟩
    · have hm : ¬ (s.data.toList.take 2 = [58, 45] ∨ s.data.toList.take 2 = [58, 58] ∨ s.data.toList.take 2 = [33, 61]) := by
        rintro (h | h | h)
        · exact H1.out (by omega) h
        · exact H2.out (by omega) h
        · exact H3.out (by omega) h
      have hd : s.data.toList = s[0] :: s.data.toList.drop 1 := by
        have h := List.drop_eq_getElem_cons (l := s.data.toList) (i := 0) (by simpa using h0)
        exact h
      have he : markL s.data.toList = if markB s[0] then 1 else 0 := by
        unfold markL; rw [if_neg hm]; generalize s[0] = c at hd ⊢; rw [hd]
      have HE := Lib.hid he; clear he hm hd
      have hi := Lib.hid (idx_marks s[0])
      cases hb : markB s[0]
      · have HB1 := Lib.hid hb; clear hb
        go_wp2_with fail
        refine (Try.strings_IndexByte _ _ _).mono ?_
        rintro e w' ⟨rfl, rfl⟩
        have hj := hi.out; rw [HB1.out] at hj
        go_wp2_with fail
        go_ret
        exact ⟨ret_int (by rw [HE.out, HB1.out]; rfl), HB.out⟩
      · have HB1 := Lib.hid hb; clear hb
        go_wp2_with fail
        refine (Try.strings_IndexByte _ _ _).mono ?_
        rintro e w' ⟨rfl, rfl⟩
        have hj := hi.out; rw [HB1.out] at hj
        go_wp2_with fail
        go_ret
        exact ⟨ret_int (by rw [HE.out, HB1.out]; rfl), HB.out⟩

set_option maxHeartbeats 400000 in
theorem one_ok (s : ByteArray) (h0 : 0 < s.size) (hs : s.size ≤ maxLen) (w : World) : Calls Try.prog 18 #[.string s] w fun e w' => e = .returned (.tuple #[.int .i64 ((oneL s.data.toList).1 : Nat), .int .i64 ((oneL s.data.toList).2 : Nat)]) ∧ Below w.heap.size w w' := by
  have hM := Lib.hid (mark_ok s h0 hs)
  have hD := Lib.hid (run_digit s hs)
  have hP := Lib.hid (run_part s hs)
  unfold maxLen at hs
  have hd : s.data.toList = s[0] :: s.data.toList.drop 1 := List.drop_eq_getElem_cons (l := s.data.toList) (i := 0) (by simpa using h0)
  have hO : oneL s.data.toList = if digB s[0] then (if 10 < runL digB s.data.toList ∨ (1 < runL digB s.data.toList ∧ s[0].toNat = 48) then (0, 0) else (2, runL digB s.data.toList)) else if partB s[0] then (if 32 < runL partB s.data.toList then (0, 0) else (1, runL partB s.data.toList)) else (3, markL s.data.toList) := by
    generalize s[0] = c at hd ⊢; rw [hd]; rfl
  have HO := Lib.hid hO; clear hO
  clear hd
  cases hdig : digB s[0]
  · have HDG := Lib.hid hdig; clear hdig
    cases hpar : partB s[0]
    · have HPT := Lib.hid hpar; clear hpar
      have ho := HO.out; rw [HDG.out, HPT.out] at ho; simp only [Bool.false_eq_true, if_false] at ho
      have HF := Lib.hid ho; clear ho
      go_enter Try.func18, Try.ntmps18
      go_wp2_with fail
      refine (digit_ok _ _).mono ?_
      rintro e w' ⟨rfl, rfl⟩
      rw [HDG.out]
      go_wp2_with fail
      refine (part_ok _ _).mono ?_
      rintro e w' ⟨rfl, rfl⟩
      rw [HPT.out]
      go_wp2_with fail
      refine (hM.out _).mono ?_
      rintro e w' ⟨rfl, hb⟩
      go_wp2_with fail
      go_ret2
      exact ⟨ret_int2 (by rw [HF.out]; rfl) (by rw [HF.out]), hb⟩
    · have HPT := Lib.hid hpar; clear hpar
      have ho := HO.out; rw [HDG.out, HPT.out] at ho; simp only [Bool.false_eq_true, if_false, if_true] at ho
      by_cases h3 : 32 < runL partB s.data.toList
      · rw [if_pos h3] at ho
        have HF := Lib.hid ho; clear ho
        have h32 : decide (32 < ((runL partB s.data.toList : Nat) : Int)) = true := decide_eq_true (by omega)
        clear h3
        go_enter Try.func18, Try.ntmps18
        go_wp2_with fail
        refine (digit_ok _ _).mono ?_
        rintro e w' ⟨rfl, rfl⟩
        rw [HDG.out]
        go_wp2_with fail
        refine (part_ok _ _).mono ?_
        rintro e w' ⟨rfl, rfl⟩
        rw [HPT.out]
        go_wp2_with fail
        refine (hP.out _).mono ?_
        rintro e w' ⟨rfl, rfl⟩
        go_wp2_with fail
        go_ret2
        exact ⟨ret_int2 (by rw [HF.out]; rfl) (by rw [HF.out]; rfl), Below.refl _ _⟩
      · rw [if_neg h3] at ho
        have HF := Lib.hid ho; clear ho
        have h32 : decide (32 < ((runL partB s.data.toList : Nat) : Int)) = false := decide_eq_false (by omega)
        clear h3
        go_enter Try.func18, Try.ntmps18
        go_wp2_with fail
        refine (digit_ok _ _).mono ?_
        rintro e w' ⟨rfl, rfl⟩
        rw [HDG.out]
        go_wp2_with fail
        refine (part_ok _ _).mono ?_
        rintro e w' ⟨rfl, rfl⟩
        rw [HPT.out]
        go_wp2_with fail
        refine (hP.out _).mono ?_
        rintro e w' ⟨rfl, rfl⟩
        go_wp2_with fail
        go_ret2
        exact ⟨ret_int2 (by rw [HF.out]; rfl) (by rw [HF.out]), Below.refl _ _⟩
  · have HDG := Lib.hid hdig; clear hdig
    have ho := HO.out; rw [HDG.out] at ho; simp only [if_true] at ho
    by_cases h10 : 10 < runL digB s.data.toList
    · rw [if_pos (.inl h10)] at ho
      have HF := Lib.hid ho; clear ho
      have h32 : decide (10 < ((runL digB s.data.toList : Nat) : Int)) = true := decide_eq_true (by omega)
      clear h10
      go_enter Try.func18, Try.ntmps18
      go_wp2_with fail
      refine (digit_ok _ _).mono ?_
      rintro e w' ⟨rfl, rfl⟩
      rw [HDG.out]
      go_wp2_with fail
      refine (hD.out _).mono ?_
      rintro e w' ⟨rfl, rfl⟩
      go_wp2_with fail
      go_ret2
      exact ⟨ret_int2 (by rw [HF.out]; rfl) (by rw [HF.out]; rfl), Below.refl _ _⟩
    · have h32 : decide (10 < ((runL digB s.data.toList : Nat) : Int)) = false := decide_eq_false (by omega)
      by_cases h1 : 1 < runL digB s.data.toList
      · have h33 : decide (1 < ((runL digB s.data.toList : Nat) : Int)) = true := decide_eq_true (by omega)
        by_cases h48 : s[0].toNat = 48
        · rw [if_pos (.inr ⟨h1, h48⟩)] at ho
          have HF := Lib.hid ho
          have h34 : ((s[0].toNat : Int) == 48) = true := by rw [beq_iff_eq]; omega
          clear h10 h1 h48 ho
          go_enter Try.func18, Try.ntmps18
          go_wp2_with fail
          refine (digit_ok _ _).mono ?_
          rintro e w' ⟨rfl, rfl⟩
          rw [HDG.out]
          go_wp2_with fail
          refine (hD.out _).mono ?_
          rintro e w' ⟨rfl, rfl⟩
          go_wp2_with fail
          go_ret2
          exact ⟨ret_int2 (by rw [HF.out]; rfl) (by rw [HF.out]; rfl), Below.refl _ _⟩
        · rw [if_neg (by rintro (h | h) <;> omega)] at ho
          have HF := Lib.hid ho
          have h34 : ((s[0].toNat : Int) == 48) = false := by rw [beq_eq_false_iff_ne]; omega
          clear h10 h1 h48 ho
          go_enter Try.func18, Try.ntmps18
          go_wp2_with fail
          refine (digit_ok _ _).mono ?_
          rintro e w' ⟨rfl, rfl⟩
          rw [HDG.out]
          go_wp2_with fail
          refine (hD.out _).mono ?_
          rintro e w' ⟨rfl, rfl⟩
          go_wp2_with fail
          go_ret2
          exact ⟨ret_int2 (by rw [HF.out]; rfl) (by rw [HF.out]), Below.refl _ _⟩
      · have h33 : decide (1 < ((runL digB s.data.toList : Nat) : Int)) = false := decide_eq_false (by omega)
        rw [if_neg (by rintro (h | h) <;> omega)] at ho
        have HF := Lib.hid ho
        clear h10 h1 ho
        go_enter Try.func18, Try.ntmps18
        go_wp2_with fail
        refine (digit_ok _ _).mono ?_
        rintro e w' ⟨rfl, rfl⟩
        rw [HDG.out]
        go_wp2_with fail
        refine (hD.out _).mono ?_
        rintro e w' ⟨rfl, rfl⟩
        go_wp2_with fail
        go_ret2
        exact ⟨ret_int2 (by rw [HF.out]; rfl) (by rw [HF.out]), Below.refl _ _⟩
end Go.Proofs.Ytpapmkpcnoighaa
