/- The reference's one. -/
import Derived.Test.YtpapmkpcnoighaaLexRB
namespace Go.Proofs.Ytpapmkpcnoighaa
open Go.RowKit LP
def OnePost (s : ByteArray) (q K n : Nat) (w : World) (e : Ending) (w' : World) : Prop :=
  (∃ (a : Int) (b : ByteArray) (c : Int), e = .returned (.tuple #[.agg #[.int .i64 a, .string b, .int .i64 c], .bool (decide (0 < n))]) ∧ (0 < n → a = (K : Int) ∧ b = s.extract q (q + n) ∧ c = (q : Int))) ∧ Below w.heap.size w w'
set_option maxHeartbeats 400000 in
theorem rone_ok (s : ByteArray) (hs : s.size ≤ 16384) (q : Nat) (hq : q < s.size) (K n : Nat) (hone : oneL (s.data.toList.drop q) = (K, n)) (w : World) : Calls Try.prog 19 #[.string s, .int .i64 (q : Int)] w (OnePost s q K n w) := by
  have hd : s.data.toList.drop q = s[q] :: s.data.toList.drop (q + 1) := drop_at s.data.toList q (by rw [← Lib.size_eq]; exact hq)
  have hO : oneL (s.data.toList.drop q) = if digB s[q] then (if 10 < runL digB (s.data.toList.drop q) ∨ (1 < runL digB (s.data.toList.drop q) ∧ s[q].toNat = 48) then (0, 0) else (2, runL digB (s.data.toList.drop q))) else if partB s[q] then (if 32 < runL partB (s.data.toList.drop q) then (0, 0) else (1, runL partB (s.data.toList.drop q))) else (3, markL (s.data.toList.drop q)) := by
    generalize s[q] = c at hd ⊢; rw [hd]; rfl
  rw [hone] at hO
  have HO := Lib.hid hO
  have hlen := oneL_len s.data.toList q (by rw [← Lib.size_eq]; exact hq)
  rw [hone, ← Lib.size_eq] at hlen
  have hqn : q + n ≤ s.size := hlen
  have hbd := u8_bd s[q]
  have HD := Lib.hid (rrun_true_ok s hs q (by omega))
  have HP := Lib.hid (rrun_false_ok s hs q (by omega))
  have HMK := Lib.hid (rmark_ok s hs q hq)
  have HONE := Lib.hid hone
  clear hd hO hlen hone
  cases hdig : digB s[q]
  · have HDG := Lib.hid hdig; clear hdig
    cases hpar : partB s[q]
    · have HPT := Lib.hid hpar; clear hpar
      have ho := HO.out; rw [HDG.out, HPT.out] at ho; simp only [Bool.false_eq_true, if_false, Prod.mk.injEq] at ho
      have HF := Lib.hid ho; clear ho
      obtain ⟨ok, hok⟩ : ∃ ok, ok = decide (0 < n) := ⟨_, rfl⟩
      have hok2 : decide (0 < (n : Int)) = ok := by rw [hok]; exact decide_eq_decide.2 (by omega)
      have HOK := Lib.hid hok
      obtain ⟨r, hr⟩ : ∃ r, r = q + n := ⟨_, rfl⟩
      have hR : (q : Int) + (n : Int) = (r : Int) := by omega
      have hrl : r ≤ s.size := by omega
      have hrq : q ≤ r := by omega
      have HRR := Lib.hid hr
      have nl : n ≤ 16384 := by omega
      clear hok hr
      go_enter Try.func19, Try.ntmps19
      go_wp2_with fail
      refine (rdigit_ok _ _).mono ?_
      rintro e w' ⟨rfl, rfl⟩
      rw [HDG.out]
      go_wp2_with fail
      refine (rpart_ok _ _).mono ?_
      rintro e w' ⟨rfl, rfl⟩
      rw [HPT.out]
      go_wp2_with fail
      refine (HMK.out _).mono ?_
      rintro e w1 ⟨rfl, hb1⟩
      rw [← HF.out.2]
      have hb := hb1.block w.heap.size (by simp; omega)
      have hbx := hb1.block (w.heap.size + 1) (by simp)
      have B0 : Blk w1 w.heap.size 30 #[.int .i64 0, .string ⟨#[]⟩, .int .i64 0] := hb.trans ((Blk.new_ w 30 _).alloc_ _)
      have B1 : Blk w1 (w.heap.size + 1) 30 #[.int .i64 3, .string ⟨#[]⟩, .int .i64 (q : Int)] := hbx.trans (by have := Blk.new_ (w.alloc (.cells #[.int .i64 0, .string ⟨#[]⟩, .int .i64 0] 30)) 30 #[.int .i64 3, .string ⟨#[]⟩, .int .i64 (q : Int)]; simpa [Blk] using this)
      have HBW := Lib.hid ((((Below.refl _ w).alloc (Nat.le_refl _) (.cells #[.int .i64 0, .string ⟨#[]⟩, .int .i64 0] 30)).alloc (by simp) (.cells #[.int .i64 3, .string ⟨#[]⟩, .int .i64 (q : Int)] 30)).trans (hb1.mono (by simp; omega)))
      have z0 : w1.cell? ⟨w.heap.size, 0, none⟩ = some (.int .i64 0) := B0.cell 0
      have z1 : w1.cell? ⟨w.heap.size, 1, none⟩ = some (.string ⟨#[]⟩) := B0.cell 1
      have z2 : w1.cell? ⟨w.heap.size, 2, none⟩ = some (.int .i64 0) := B0.cell 2
      have x0 : w1.cell? ⟨w.heap.size + 1, 0, none⟩ = some (.int .i64 3) := B1.cell 0
      have x1 : w1.cell? ⟨w.heap.size + 1, 1, none⟩ = some (.string ⟨#[]⟩) := B1.cell 1
      have x2 : w1.cell? ⟨w.heap.size + 1, 2, none⟩ = some (.int .i64 (q : Int)) := B1.cell 2
      have zf0 := B0.frozen 0
      have zf1 := B0.frozen 1
      have zf2 := B0.frozen 2
      have xf1 := B1.frozen 1
      clear hb hbx B0 B1 hb1
      go_wp2_with fail
      refine bodyPost_ret (v := .tuple #[.agg #[.int .i64 3, .string (s.extract q r), .int .i64 (q : Int)], .bool ok]) ?_ rfl ⟨⟨3, s.extract q r, q, ?_, ?_⟩, ?_⟩
      · rw [results_cell_tmp rfl]; go_simp; first | done | exact HOK.out.symm
      · rw [HOK.out]
      · intro _; rw [HF.out.1, ← HRR.out]; exact ⟨rfl, rfl, rfl⟩
      · exact ((((HBW.out.setCell (by simp) _).setCell (Nat.le_refl _) _).setCell (Nat.le_refl _) _).setCell (Nat.le_refl _) _)
    · have HPT := Lib.hid hpar; clear hpar
      have ho := HO.out; rw [HDG.out, HPT.out] at ho; simp only [Bool.false_eq_true, if_false, if_true] at ho
      by_cases h3 : 32 < runL partB (s.data.toList.drop q)
      · rw [if_pos h3] at ho
        simp only [Prod.mk.injEq] at ho
        have HF := Lib.hid ho; clear ho
        have h32 : decide (32 < ((runL partB (s.data.toList.drop q) : Nat) : Int)) = true := decide_eq_true (by omega)
        clear h3
        go_enter Try.func19, Try.ntmps19
        go_wp2_with fail
        refine (rdigit_ok _ _).mono ?_
        rintro e w' ⟨rfl, rfl⟩
        rw [HDG.out]
        go_wp2_with fail
        refine (rpart_ok _ _).mono ?_
        rintro e w' ⟨rfl, rfl⟩
        rw [HPT.out]
        go_wp2_with fail
        refine (HP.out _).mono ?_
        rintro e w' ⟨rfl, rfl⟩
        go_wp2_with fail
        refine bodyPost_ret (v := .tuple #[.agg #[.int .i64 0, .string ⟨#[]⟩, .int .i64 0], .bool false]) ?_ rfl ⟨⟨0, ⟨#[]⟩, 0, ?_, ?_⟩, ?_⟩
        · rw [results_cell_tmp rfl]; go_simp
        · rw [HF.out.2]; rfl
        · intro h; have := HF.out.2; omega
        · exact ((Below.refl _ _).alloc (Nat.le_refl _) _).alloc (by simp) _
      · rw [if_neg h3] at ho
        simp only [Prod.mk.injEq] at ho
        have HF := Lib.hid ho
        have h32 : decide (32 < ((n : Nat) : Int)) = false := decide_eq_false (by omega)
        clear h3 ho
        obtain ⟨ok, hok⟩ : ∃ ok, ok = decide (0 < n) := ⟨_, rfl⟩
        have hok2 : decide (0 < (n : Int)) = ok := by rw [hok]; exact decide_eq_decide.2 (by omega)
        have HOK := Lib.hid hok
        obtain ⟨r, hr⟩ : ∃ r, r = q + n := ⟨_, rfl⟩
        have hR : (q : Int) + (n : Int) = (r : Int) := by omega
        have hrl : r ≤ s.size := by omega
        have hrq : q ≤ r := by omega
        have HRR := Lib.hid hr
        have nl : n ≤ 16384 := by omega
        clear hok hr
        go_enter Try.func19, Try.ntmps19
        go_wp2_with fail
        refine (rdigit_ok _ _).mono ?_
        rintro e w' ⟨rfl, rfl⟩
        rw [HDG.out]
        go_wp2_with fail
        refine (rpart_ok _ _).mono ?_
        rintro e w' ⟨rfl, rfl⟩
        rw [HPT.out]
        go_wp2_with fail
        refine (HP.out _).mono ?_
        rintro e w' ⟨rfl, rfl⟩
        rw [← HF.out.2]
        go_wp2_with fail
        refine bodyPost_ret (v := .tuple #[.agg #[.int .i64 1, .string (s.extract q r), .int .i64 (q : Int)], .bool ok]) ?_ rfl ⟨⟨1, s.extract q r, q, ?_, ?_⟩, ?_⟩
        · rw [results_cell_tmp rfl]; go_simp; first | done | exact HOK.out.symm
        · rw [HOK.out]
        · intro _; rw [HF.out.1, ← HRR.out]; exact ⟨rfl, rfl, rfl⟩
        · exact (((Below.refl _ _).alloc (Nat.le_refl _) _).alloc (by simp) _)
  · have HDG := Lib.hid hdig; clear hdig
    have ho := HO.out; rw [HDG.out] at ho; simp only [if_true] at ho
    by_cases h10 : 10 < runL digB (s.data.toList.drop q)
    · rw [if_pos (.inl h10)] at ho
      simp only [Prod.mk.injEq] at ho
      have HF := Lib.hid ho; clear ho
      have h32 : decide (10 < ((runL digB (s.data.toList.drop q) : Nat) : Int)) = true := decide_eq_true (by omega)
      clear h10
      go_enter Try.func19, Try.ntmps19
      go_wp2_with fail
      refine (rdigit_ok _ _).mono ?_
      rintro e w' ⟨rfl, rfl⟩
      rw [HDG.out]
      go_wp2_with fail
      refine (HD.out _).mono ?_
      rintro e w' ⟨rfl, rfl⟩
      go_wp2_with fail
      refine bodyPost_ret (v := .tuple #[.agg #[.int .i64 0, .string ⟨#[]⟩, .int .i64 0], .bool false]) ?_ rfl ⟨⟨0, ⟨#[]⟩, 0, ?_, ?_⟩, ?_⟩
      · rw [results_cell_tmp rfl]; go_simp
      · rw [HF.out.2]; rfl
      · intro h; have := HF.out.2; omega
      · exact ((Below.refl _ _).alloc (Nat.le_refl _) _).alloc (by simp) _
    · by_cases h1 : 1 < runL digB (s.data.toList.drop q)
      · by_cases h48 : s[q].toNat = 48
        · rw [if_pos (.inr ⟨h1, h48⟩)] at ho
          simp only [Prod.mk.injEq] at ho
          have HF := Lib.hid ho
          have h32 : decide (10 < ((runL digB (s.data.toList.drop q) : Nat) : Int)) = false := decide_eq_false (by omega)
          have h33 : decide (1 < ((runL digB (s.data.toList.drop q) : Nat) : Int)) = true := decide_eq_true (by omega)
          have h34 : ((s[q].toNat : Int) == 48) = true := by rw [beq_iff_eq]; omega
          clear h10 h1 h48 ho
          go_enter Try.func19, Try.ntmps19
          go_wp2_with fail
          refine (rdigit_ok _ _).mono ?_
          rintro e w' ⟨rfl, rfl⟩
          rw [HDG.out]
          go_wp2_with fail
          refine (HD.out _).mono ?_
          rintro e w' ⟨rfl, rfl⟩
          go_wp2_with fail
          refine bodyPost_ret (v := .tuple #[.agg #[.int .i64 0, .string ⟨#[]⟩, .int .i64 0], .bool false]) ?_ rfl ⟨⟨0, ⟨#[]⟩, 0, ?_, ?_⟩, ?_⟩
          · rw [results_cell_tmp rfl]; go_simp
          · rw [HF.out.2]; rfl
          · intro h; have := HF.out.2; omega
          · exact ((Below.refl _ _).alloc (Nat.le_refl _) _).alloc (by simp) _
        · rw [if_neg (by rintro (h | h) <;> omega)] at ho
          simp only [Prod.mk.injEq] at ho
          have HF := Lib.hid ho
          have h32 : decide (10 < ((n : Nat) : Int)) = false := decide_eq_false (by omega)
          have h33 : decide (1 < ((n : Nat) : Int)) = true := decide_eq_true (by omega)
          have h34 : ((s[q].toNat : Int) == 48) = false := by rw [beq_eq_false_iff_ne]; omega
          clear h10 h1 h48 ho
          obtain ⟨ok, hok⟩ : ∃ ok, ok = decide (0 < n) := ⟨_, rfl⟩
          have hok2 : decide (0 < (n : Int)) = ok := by rw [hok]; exact decide_eq_decide.2 (by omega)
          have HOK := Lib.hid hok
          obtain ⟨r, hr⟩ : ∃ r, r = q + n := ⟨_, rfl⟩
          have hR : (q : Int) + (n : Int) = (r : Int) := by omega
          have hrl : r ≤ s.size := by omega
          have hrq : q ≤ r := by omega
          have HRR := Lib.hid hr
          have nl : n ≤ 16384 := by omega
          clear hok hr
          go_enter Try.func19, Try.ntmps19
          go_wp2_with fail
          refine (rdigit_ok _ _).mono ?_
          rintro e w' ⟨rfl, rfl⟩
          rw [HDG.out]
          go_wp2_with fail
          refine (HD.out _).mono ?_
          rintro e w' ⟨rfl, rfl⟩
          rw [← HF.out.2]
          go_wp2_with fail
          refine bodyPost_ret (v := .tuple #[.agg #[.int .i64 2, .string (s.extract q r), .int .i64 (q : Int)], .bool ok]) ?_ rfl ⟨⟨2, s.extract q r, q, ?_, ?_⟩, ?_⟩
          · rw [results_cell_tmp rfl]; go_simp; first | done | exact HOK.out.symm
          · rw [HOK.out]
          · intro _; rw [HF.out.1, ← HRR.out]; exact ⟨rfl, rfl, rfl⟩
          · exact (((Below.refl _ _).alloc (Nat.le_refl _) _).alloc (by simp) _)
      · rw [if_neg (by rintro (h | h) <;> omega)] at ho
        simp only [Prod.mk.injEq] at ho
        have HF := Lib.hid ho
        have h32 : decide (10 < ((n : Nat) : Int)) = false := decide_eq_false (by omega)
        have h33 : decide (1 < ((n : Nat) : Int)) = false := decide_eq_false (by omega)
        clear h10 h1 ho
        obtain ⟨ok, hok⟩ : ∃ ok, ok = decide (0 < n) := ⟨_, rfl⟩
        have hok2 : decide (0 < (n : Int)) = ok := by rw [hok]; exact decide_eq_decide.2 (by omega)
        have HOK := Lib.hid hok
        obtain ⟨r, hr⟩ : ∃ r, r = q + n := ⟨_, rfl⟩
        have hR : (q : Int) + (n : Int) = (r : Int) := by omega
        have hrl : r ≤ s.size := by omega
        have hrq : q ≤ r := by omega
        have HRR := Lib.hid hr
        have nl : n ≤ 16384 := by omega
        clear hok hr
        go_enter Try.func19, Try.ntmps19
        go_wp2_with fail
        refine (rdigit_ok _ _).mono ?_
        rintro e w' ⟨rfl, rfl⟩
        rw [HDG.out]
        go_wp2_with fail
        refine (HD.out _).mono ?_
        rintro e w' ⟨rfl, rfl⟩
        rw [← HF.out.2]
        go_wp2_with fail
        refine bodyPost_ret (v := .tuple #[.agg #[.int .i64 2, .string (s.extract q r), .int .i64 (q : Int)], .bool ok]) ?_ rfl ⟨⟨2, s.extract q r, q, ?_, ?_⟩, ?_⟩
        · rw [results_cell_tmp rfl]; go_simp; first | done | exact HOK.out.symm
        · rw [HOK.out]
        · intro _; rw [HF.out.1, ← HRR.out]; exact ⟨rfl, rfl, rfl⟩
        · exact (((Below.refl _ _).alloc (Nat.le_refl _) _).alloc (by simp) _)
end Go.Proofs.Ytpapmkpcnoighaa
