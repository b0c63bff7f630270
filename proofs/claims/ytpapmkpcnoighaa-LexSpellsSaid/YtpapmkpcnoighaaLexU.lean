/- Contracts of layer 10's Spell, and of the reference's Is and Spell. -/
import Derived.Test.YtpapmkpcnoighaaLexRD
import Derived.Test.YtpapmkpcnoighaaLexT
namespace Go.Proofs.Ytpapmkpcnoighaa
open Go.RowKit LP
theorem toList_nil (t : ByteArray) (h : t.size = 0) : t.toList = [] := by
  rw [Lib.toList_data]; exact List.eq_nil_of_length_eq_zero (by rw [← Lib.size_eq]; exact h)
theorem toList_ne (t : ByteArray) (h : 0 < t.size) : (t.toList == []) = false := by
  rw [beq_eq_false_iff_ne, Lib.toList_data]; intro h2; rw [Lib.size_eq, h2] at h; simp at h
theorem vS_bytes (k : Int) (t : ByteArray) (ht : 0 < t.size) (K n : Nat) (h : oneL t.data.toList = (K, n)) : vS k t.data.toList = (((K : Int) == k) && ((n : Int) == (t.size : Int))) := by
  have hne : t.data.toList ≠ [] := by intro h2; rw [Lib.size_eq, h2] at ht; simp at ht
  unfold vS
  rw [h, Bool.eq_iff_iff, decide_eq_true_iff, Bool.and_eq_true, beq_iff_eq, beq_iff_eq, Lib.size_eq]
  constructor
  · rintro ⟨_, a, b⟩; exact ⟨a, by omega⟩
  · rintro ⟨a, b⟩; exact ⟨hne, a, by omega⟩
theorem vS_nil (k : Int) (t : ByteArray) (ht : t.size = 0) : vS k t.data.toList = false := by
  have h : t.data.toList = [] := List.eq_nil_of_length_eq_zero (by rw [← Lib.size_eq]; exact ht)
  rw [h]; rfl
set_option maxHeartbeats 400000 in
theorem ris_ok (k : Int) (t : ByteArray) (ht : t.size ≤ maxLen) (p : Int) (w : World) : Calls Try.prog 21 #[.agg #[.int .i64 k, .string t, .int .i64 p]] w fun e w' => e = .returned (.bool (vS k t.data.toList)) ∧ Below w.heap.size w w' := by
  unfold maxLen at ht
  by_cases h0 : t.size = 0
  · have hv := vS_nil k t h0
    have HV := Lib.hid hv
    have hl := toList_nil t h0
    clear hv
    go_enter Try.func21, Try.ntmps21
    go_wp2_with fail
    go_ret
    exact ⟨ret_bool HV.out.symm, (Below.refl _ _).alloc (Nat.le_refl _) _⟩
  · have hl := toList_ne t (by omega)
    by_cases h32 : 32 < t.size
    · have hv : vS k t.data.toList = false := by
        rw [Bool.eq_false_iff]; intro h; have := (vS_len k _ h).1; rw [← Lib.size_eq] at this; omega
      have HV := Lib.hid hv
      have d : decide (32 < (t.size : Int)) = true := decide_eq_true (by omega)
      clear hv h32 h0
      go_enter Try.func21, Try.ntmps21
      go_wp2_with fail
      go_ret
      exact ⟨ret_bool HV.out.symm, (Below.refl _ _).alloc (Nat.le_refl _) _⟩
    · have d : decide (32 < (t.size : Int)) = false := decide_eq_false (by omega)
      obtain ⟨K, n, hone⟩ : ∃ K n, oneL (t.data.toList.drop 0) = (K, n) := ⟨_, _, rfl⟩
      have HO := Lib.hid (fun W => rone_ok t (by omega) 0 (by omega) K n hone W)
      have hn := oneL_len t.data.toList 0 (by rw [← Lib.size_eq]; omega)
      rw [hone, ← Lib.size_eq] at hn
      have hv := vS_bytes k t (by omega) K n hone
      have HV := Lib.hid hv
      have hn2 : n ≤ t.size := by simpa using hn
      have h32b : t.size ≤ 32 := by omega
      clear hv h32 hone hn
      go_enter Try.func21, Try.ntmps21
      go_wp2_with fail
      refine (HO.out _).mono ?_
      rintro e w1 ⟨⟨a, b, c, rfl, hgood⟩, hb1⟩
      have hbx := hb1.block w.heap.size (by simp)
      have B0 : Blk w1 w.heap.size 30 #[.int .i64 k, .string t, .int .i64 p] := hbx.trans (Blk.new_ w 30 _)
      have x0 : w1.cell? ⟨w.heap.size, 0, none⟩ = some (.int .i64 k) := B0.cell 0
      have x1 : w1.cell? ⟨w.heap.size, 1, none⟩ = some (.string t) := B0.cell 1
      have hlt := B0.lt
      have HBW := Lib.hid (((Below.refl _ w).alloc (Nat.le_refl _) (.cells #[.int .i64 k, .string t, .int .i64 p] 30)).trans (hb1.mono (by simp)))
      clear hbx B0 hb1
      by_cases hn0 : n = 0
      · have hok : decide (0 < n) = false := decide_eq_false (by omega)
        have hv0 : vS k t.data.toList = false := by
          rw [HV.out, show ((n : Int) == (t.size : Int)) = false by rw [beq_eq_false_iff_ne]; omega, Bool.and_false]
        have HV0 := Lib.hid hv0
        rw [hok]
        clear hok hv0 hgood hn0
        go_wp2_with fail
        go_ret
        exact ⟨ret_bool HV0.out.symm, HBW.out.alloc HBW.out.size _⟩
      · have hok : decide (0 < n) = true := decide_eq_true (by omega)
        obtain ⟨rfl, rfl, rfl⟩ := hgood (by omega)
        rw [hok, Nat.zero_add]
        by_cases hK : (K : Int) = k
        · have hKb : ((K : Int) == k) = true := by rw [beq_iff_eq]; exact hK
          by_cases hns : n = t.size
          · have hex : t.extract 0 n = t := by
              rw [hns]; apply ByteArray.ext; apply Array.toList_inj.1
              rw [Lib.extract_data]; simp [List.take_of_length_le]
            rw [hex]
            have hv1 : vS k t.data.toList = true := by
              rw [HV.out, hKb, hns]; simp
            have HV1 := Lib.hid hv1
            clear hok hv1 hgood hn0 hex hns hK hn2
            go_wp2_with fail
            go_ret
            exact ⟨ret_bool HV1.out.symm, HBW.out.alloc HBW.out.size _⟩
          · have hex : ((t.extract 0 n).toList == t.toList) = false := by
              rw [beq_eq_false_iff_ne]; intro h
              have := congrArg List.length h
              rw [Lib.toList_data, Lib.toList_data, ← Lib.size_eq, ← Lib.size_eq, ByteArray.size_extract] at this; omega
            have hv1 : vS k t.data.toList = false := by
              rw [HV.out, show ((n : Int) == (t.size : Int)) = false by rw [beq_eq_false_iff_ne]; omega, Bool.and_false]
            have HV1 := Lib.hid hv1
            clear hok hv1 hgood hn0 hns hK hn2
            go_wp2_with fail
            go_ret
            exact ⟨ret_bool HV1.out.symm, HBW.out.alloc HBW.out.size _⟩
        · have hKb : ((K : Int) == k) = false := by rw [beq_eq_false_iff_ne]; exact hK
          have hv1 : vS k t.data.toList = false := by rw [HV.out, hKb, Bool.false_and]
          have HV1 := Lib.hid hv1
          clear hok hv1 hgood hn0 hK hn2
          go_wp2_with fail
          go_ret
          exact ⟨ret_bool HV1.out.symm, HBW.out.alloc HBW.out.size _⟩
end Go.Proofs.Ytpapmkpcnoighaa
