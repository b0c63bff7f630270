/- The laws of layer 3: bits of numbers in plain Lean; the nodes of sixteen bits. -/
import Derived.Test.YtdalnhhenahcjaaNodeZ
namespace Go.Proofs.Ytdalnhhenahcjaa
open Go.RowKit HP NP
theorem and_mod (x : Int) (j : Nat) (hj : j ≤ 62) : bits .and .i64 x ((2 ^ j - 1 : Nat) : Int) = x % ((2 ^ j : Nat) : Int) := by
  have hp : 0 < 2 ^ j := Nat.two_pow_pos j
  have hle : 2 ^ j ≤ 2 ^ 62 := Nat.pow_le_pow_right (by decide) hj
  have hlt : 2 ^ j - 1 < 2 ^ 64 := by
    have : (2 : Nat) ^ 62 < 2 ^ 64 := by decide
    omega
  show IntKind.i64.wrap ((BitVec.ofInt 64 x &&& BitVec.ofInt 64 ((2 ^ j - 1 : Nat) : Int)).toNat : Int) = _
  rw [BitVec.toNat_and, BitVec.ofInt_natCast, BitVec.toNat_ofNat, Nat.mod_eq_of_lt hlt, Nat.and_two_pow_sub_one_eq_mod, BitVec.toNat_ofInt]
  have e : (((x % ((2 ^ 64 : Nat) : Int)).toNat % 2 ^ j : Nat) : Int) = x % ((2 ^ j : Nat) : Int) := by
    have h0 : 0 ≤ x % ((2 ^ 64 : Nat) : Int) := Int.emod_nonneg _ (by decide)
    rw [Int.natCast_emod, Int.toNat_of_nonneg h0]
    apply Int.emod_emod_of_dvd
    have : (2 : Nat) ^ j ∣ 2 ^ 64 := Nat.pow_dvd_pow 2 (by omega)
    exact Int.natCast_dvd_natCast.2 this
  rw [e, IntKind.wrap_i64]
  have h1 : 0 ≤ x % ((2 ^ j : Nat) : Int) := Int.emod_nonneg _ (by omega)
  have h2 : x % ((2 ^ j : Nat) : Int) < ((2 ^ j : Nat) : Int) := Int.emod_lt_of_pos _ (by omega)
  have h3 : ((2 ^ j : Nat) : Int) ≤ ((2 ^ 62 : Nat) : Int) := by omega
  have h4 : ((2 ^ 62 : Nat) : Int) = 4611686018427387904 := rfl
  omega
theorem and_one (x : Int) : bits .and .i64 x 1 = x % 2 := and_mod x 1 (by decide)
theorem and_16 (x : Int) : bits .and .i64 x 65535 = x % 65536 := and_mod x 16 (by decide)
theorem bt_eq (n : Int) (k : Nat) : bt n k = decide (n / 2 ^ k % 2 = 1) := by
  unfold bt; rw [and_one]; rfl
/-- the low sixteen bits -/
def lo16 (n : Int) : Nat := (n % 65536).toNat
theorem lo16_int (n : Int) : (lo16 n : Int) = n % 65536 := by unfold lo16; omega
theorem lo16_lt (n : Int) : lo16 n < 65536 := by unfold lo16; omega
theorem bt_lo (n : Int) (k : Nat) (hk : k < 16) : bt n k = (lo16 n).testBit k := by
  rw [bt_eq, Nat.testBit_eq_decide_div_mod_eq]
  have h := lo16_int n
  have hd : n = 65536 * (n / 65536) + (lo16 n : Int) := by rw [h]; omega
  have hk16 : (65536 : Int) = 2 ^ k * 2 * 2 ^ (15 - k) := by
    have : k = 0 ∨ k = 1 ∨ k = 2 ∨ k = 3 ∨ k = 4 ∨ k = 5 ∨ k = 6 ∨ k = 7 ∨ k = 8 ∨ k = 9 ∨ k = 10 ∨ k = 11 ∨ k = 12 ∨ k = 13 ∨ k = 14 ∨ k = 15 := by omega
    rcases this with rfl | rfl | rfl | rfl | rfl | rfl | rfl | rfl | rfl | rfl | rfl | rfl | rfl | rfl | rfl | rfl <;> rfl
  have hpk : (0 : Int) < 2 ^ k := Int.pow_pos (by decide)
  have e : n / 2 ^ k = (lo16 n : Int) / 2 ^ k + 2 * (2 ^ (15 - k) * (n / 65536)) := by
    have e1 : n = (lo16 n : Int) + 2 ^ k * (2 * (2 ^ (15 - k) * (n / 65536))) := by
      have : (65536 : Int) * (n / 65536) = 2 ^ k * (2 * (2 ^ (15 - k) * (n / 65536))) := by
        generalize n / 65536 = z
        rw [hk16, Int.mul_assoc, Int.mul_assoc]
      omega
    generalize hz : 2 * (2 ^ (15 - k) * (n / 65536)) = z at e1
    exact (congrArg (fun t : Int => t / 2 ^ k) e1).trans (Int.add_mul_ediv_left _ _ (by omega))
  rw [e]
  have e2 : ((lo16 n : Int) / 2 ^ k) = ((lo16 n / 2 ^ k : Nat) : Int) := by
    rw [Int.natCast_ediv, Int.natCast_pow]; rfl
  rw [e2]
  generalize 2 ^ (15 - k) * (n / 65536) = y
  generalize lo16 n / 2 ^ k = m
  by_cases h1 : m % 2 = 1
  · rw [decide_eq_true h1, decide_eq_true (by omega)]
  · rw [decide_eq_false h1, decide_eq_false (by omega)]
theorem bits_same (a b : Int) : bitsL a = bitsL b ↔ bits .and .i64 a 65535 = bits .and .i64 b 65535 := by
  rw [and_16, and_16, ← lo16_int, ← lo16_int]
  constructor
  · intro h
    congr 1
    apply Nat.eq_of_testBit_eq
    intro i
    rcases Nat.lt_or_ge i 16 with hi | hi
    · rw [← bt_lo a i hi, ← bt_lo b i hi]
      have := congrArg (fun l => l.getD i false) h
      simpa [bitsL, hi] using this
    · have : (2 : Nat) ^ 16 ≤ 2 ^ i := Nat.pow_le_pow_right (by decide) hi
      rw [Nat.testBit_lt_two_pow (by have := lo16_lt a; omega), Nat.testBit_lt_two_pow (by have := lo16_lt b; omega)]
  · intro h
    have h' : lo16 a = lo16 b := by omega
    unfold bitsL
    apply List.map_congr_left
    intro k hk
    have := List.mem_range.1 hk
    rw [bt_lo a k this, bt_lo b k this, h']
/-- the values that tell bit n -/
theorem idx_vals : ∀ n : Nat, n < 16 → idx (rho (valsL (n : Int))) 4 0 0 = n := by decide +kernel
theorem bitsL_len (n : Int) : (bitsL n).length = 16 := by simp [bitsL]
theorem idx_lt (ρ : Nat → Bool) : idx ρ 4 0 0 < 16 := by
  simp only [idx]
  cases ρ 0 <;> cases ρ 1 <;> cases ρ 2 <;> cases ρ 3 <;> decide
/-- two nodes of sixteen bits in one store are one just if the bits are the same -/
theorem tab_one {S S1 S2 : NS} {x y : List Bool} {k j : Nat} (hx : x.length = 16) (hy : y.length = 16) (h1 : TabOk S x 4 0 0 S1 k) (h2 : TabOk S1 y 4 0 0 S2 j) : k = j ↔ x = y := by
  have hk := h2.ext.isB h1.is
  have dk : ∀ ρ, den S2.l ρ k = x.getD (idx ρ 4 0 0) false := fun ρ => by rw [h2.ext.den' h1.wf h2.wf ρ h1.is, h1.says]
  constructor
  · rintro rfl
    apply List.ext_getElem (by omega)
    intro n hn1 hn2
    have a := dk (rho (valsL (n : Int)))
    rw [h2.says, idx_vals n (by omega)] at a
    rw [List.getD_eq_getElem?_getD, List.getD_eq_getElem?_getD, List.getElem?_eq_getElem hn1, List.getElem?_eq_getElem hn2] at a
    exact a.symm
  · rintro rfl
    exact one_node h2.wf hk h2.is (fun ρ => by rw [dk, h2.says])
/-- what Eval says of a node of sixteen bits -/
theorem tab_ev {S S1 S2 : NS} {x : List Bool} {k : Nat} (h1 : TabOk S x 4 0 0 S1 k) (hW : Wf S2) (he : Ext S1 S2) (n : Nat) (hn : n < 16) : evB S2 (valsL (n : Int)) (k : Int) = x.getD n false ∧ findE S2 (k : Int) = 0 := by
  have hk := he.isB h1.is
  unfold evB findE
  rw [isK_nat, hk]
  refine ⟨?_, rfl⟩
  show den S2.l _ k = _
  rw [he.den' h1.wf hW _ h1.is, h1.says, idx_vals n hn]
end Go.Proofs.Ytdalnhhenahcjaa
