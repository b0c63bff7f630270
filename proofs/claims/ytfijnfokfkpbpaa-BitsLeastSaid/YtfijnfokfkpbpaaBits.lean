/- Bits as lists of bools, and the contracts of bits.Put, bits.Get and of osierref01.Put, osierref01.Get, osierref01.SameBits. -/
import Derived.Test.YtfijnfokfkpbpaaRefA
namespace Go.Proofs.Ytfijnfokfkpbpaa
open Go.RowKit

/-! ### plain -/
def putL (n : Nat) (k : Nat) : List Bool := (List.range k).map fun i => n.testBit i
def putE (n wd : Int) : Int := if wd < 0 ∨ 62 < wd ∨ n < 0 ∨ ((2 ^ wd.toNat : Nat) : Int) ≤ n then 1 else 0
def putR (n wd : Int) : List Bool := if putE n wd = 0 then putL n.toNat wd.toNat else []
def getN : List Bool → Nat
  | [] => 0
  | b :: l => b.toNat + 2 * getN l
theorem getN_snoc (l : List Bool) (b : Bool) : getN (l ++ [b]) = getN l + b.toNat * 2 ^ l.length := by
  induction l with
  | nil => simp [getN]
  | cons c l ih => simp only [List.cons_append, getN, ih, List.length_cons, Nat.pow_succ]; rw [Nat.mul_add, Nat.mul_comm (2 ^ l.length) 2, ← Nat.mul_assoc, ← Nat.mul_assoc, Nat.mul_comm 2 b.toNat]; omega
theorem getN_lt (l : List Bool) : getN l < 2 ^ l.length := by
  induction l with
  | nil => simp [getN]
  | cons c l ih => simp only [getN, List.length_cons, Nat.pow_succ]; have := Bool.toNat_le c; omega
theorem getN_62 (l : List Bool) (h : l.length ≤ 62) : (getN l : Int) ≤ 4611686018427387903 := by
  have h1 := getN_lt l
  have h2 := two_pow_le _ _ h
  have e2 : (2 : Nat) ^ 62 = 4611686018427387904 := by decide
  omega
def getS (l : List Bool) : Int := if l.length ≤ 62 then ((getN l : Nat) : Int) else 0
def getE (l : List Bool) : Int := if l.length ≤ 62 then 0 else 1
theorem putL_len (n k : Nat) : (putL n k).length = k := by simp [putL]
theorem putL_at (n k i : Nat) (h : i < k) : (putL n k)[i]? = some (n.testBit i) := by simp [putL, h]
theorem putL_snoc (n k : Nat) : putL n (k + 1) = putL n k ++ [n.testBit k] := by simp [putL, List.range_succ]
theorem bools_at (l : List Bool) (i : Nat) (b : Bool) (h : l[i]? = some b) : (l.map Value.bool)[i]? = some (.bool b) := by simp [h]

theorem ofInt_i64 (a : Nat) (ha : a < 9223372036854775808) : (BitVec.ofInt 64 (a : Int)).toNat = a := by
  rw [BitVec.ofInt_natCast, BitVec.toNat_ofNat]; exact Nat.mod_eq_of_lt (by omega)
theorem and_i64 (a b : Nat) (ha : a < 9223372036854775808) (hb : b < 9223372036854775808) : bits .and .i64 (a : Int) (b : Int) = ((a &&& b : Nat) : Int) := by
  have hx : a &&& b < 2 ^ 63 := Nat.and_lt_two_pow _ (by omega)
  show IntKind.i64.wrap ((BitVec.ofInt 64 (a : Int) &&& BitVec.ofInt 64 (b : Int)).toNat : Int) = _
  rw [BitVec.toNat_and, ofInt_i64 a ha, ofInt_i64 b hb, IntKind.wrap_i64]
  omega
theorem or_i64 (a b : Nat) (ha : a < 9223372036854775808) (hb : b < 9223372036854775808) : bits .or .i64 (a : Int) (b : Int) = ((a ||| b : Nat) : Int) := by
  have hx : a ||| b < 2 ^ 63 := Nat.or_lt_two_pow (by omega) (by omega)
  show IntKind.i64.wrap ((BitVec.ofInt 64 (a : Int) ||| BitVec.ofInt 64 (b : Int)).toNat : Int) = _
  rw [BitVec.toNat_or, ofInt_i64 a ha, ofInt_i64 b hb, IntKind.wrap_i64]
  omega

theorem take_next {α : Type} (l : List α) (k : Nat) (x : α) (h : l[k]? = some x) : l.take (k + 1) = l.take k ++ [x] := by
  rw [List.take_add_one, h]; rfl
theorem take_len {α : Type} (l : List α) (k : Nat) (h : k ≤ l.length) : (l.take k).length = k := by rw [List.length_take]; omega
theorem getN_next (l : List Bool) (k : Nat) (x : Bool) (h : l[k]? = some x) : getN (l.take (k + 1)) = getN (l.take k) + x.toNat * 2 ^ k := by
  have hk : k < l.length := (List.getElem?_eq_some_iff.1 h).1
  rw [take_next l k x h, getN_snoc, take_len l k (by omega)]
theorem getN_take_lt (l : List Bool) (k : Nat) (hk : k ≤ l.length) : getN (l.take k) < 2 ^ k := by
  have := getN_lt (l.take k); rwa [take_len l k hk] at this
theorem or_next (l : List Bool) (k : Nat) (h : l[k]? = some true) (h62 : k < 62) : bits .or .i64 (getN (l.take k) : Int) (2 ^ k) = (getN (l.take (k + 1)) : Int) := by
  have hk : k < l.length := (List.getElem?_eq_some_iff.1 h).1
  have hlt := getN_take_lt l k (by omega)
  have h2 := two_pow_le k 61 (by omega)
  have e2 : (2 : Nat) ^ 61 = 2305843009213693952 := by decide
  have := or_i64 (getN (l.take k)) (2 ^ k) (by omega) (by omega)
  rw [show ((2 ^ k : Nat) : Int) = (2 : Int) ^ k by simp] at this
  have e := Nat.two_pow_add_eq_or_of_lt hlt 1
  rw [Nat.mul_one] at e
  rw [this, getN_next l k true h, Nat.or_comm, ← e, Nat.add_comm]
  simp
theorem add_next (l : List Bool) (k : Nat) (h : l[k]? = some true) : (getN (l.take k) : Int) + 2 ^ k = (getN (l.take (k + 1)) : Int) := by
  rw [getN_next l k true h]; simp
theorem same_next (l : List Bool) (k : Nat) (h : l[k]? = some false) : (getN (l.take (k + 1)) : Int) = (getN (l.take k) : Int) := by
  rw [getN_next l k false h]; simp
theorem getN_take_bd (l : List Bool) (k : Nat) (h : l.length ≤ 62) : (getN (l.take k) : Int) ≤ 4611686018427387903 := getN_62 _ (by rw [List.length_take]; omega)

/-! ### bits.Get -/
set_option maxHeartbeats 400000 in
theorem get_ok (a : Option Addr) (cap : Nat) (l : List Bool) (w : World) (hl : l.length ≤ maxLen) (hc : Cells w a (l.map Value.bool)) :
    Calls Try.prog 23 #[.slice a l.length cap] w fun e w' => e = .returned (.tuple #[.int .i64 (getS l), .int .i64 (getE l)]) ∧ w = w' := by
  unfold maxLen at hl
  by_cases h : l.length ≤ 62
  · have e1 : getS l = (getN l : Nat) ∧ getE l = 0 := by unfold getS getE; constructor <;> rw [if_pos h]
    have E1 := Lib.hid e1; clear e1
    go_enter Try.func23, Try.ntmps23
    go_wp2
    go_loop [4, 11] (fun n i => ∃ k : Nat, k ≤ l.length ∧ i = .int .i64 k ∧ n = .int .i64 ((getN (l.take k) : Nat) : Int)) (fun _ i => l.length - (intOf i).toNat)
    case atStart => exact ⟨0, Nat.zero_le _, rfl, rfl⟩
    case round =>
      obtain ⟨k, hk, rfl, rfl⟩ := hrel
      by_cases hlt : k < l.length
      · obtain ⟨x, hx⟩ : ∃ x, l[k]? = some x := ⟨l[k], List.getElem?_eq_getElem hlt⟩
        obtain ⟨b, off, rfl, hb, hcell⟩ := hc.at_ (bools_at l k x hx)
        have hwp := wrap_pow62 k (by omega)
        cases x
        · have H1 := Lib.hid (same_next l k hx); have Hx := Lib.hid hx; clear hx
          go_wp2
          go_round
          case rel => exact ⟨k + 1, by omega, by go_num, by rw [H1.out]⟩
          case measure => simp [intOf]; omega
        · have h1 := or_next l k hx (by omega)
          have Hx := Lib.hid hx; clear hx
          go_wp2
          go_round
          case rel => exact ⟨k + 1, by omega, by go_num, rfl⟩
          case measure => simp [intOf]; omega
      · have hkk : k = l.length := by omega
        have H := Lib.hid hkk; clear hkk
        go_wp2
        go_ret2
        exact ⟨ret_int2 (by rw [H.out, List.take_length]; exact E1.out.1.symm) E1.out.2.symm, rfl⟩
  · have e1 : getS l = 0 ∧ getE l = 1 := by unfold getS getE; constructor <;> rw [if_neg h]
    have E1 := Lib.hid e1; clear e1
    go_enter Try.func23, Try.ntmps23
    go_wp2
    all_goals (first | (exfalso; omega) | (go_ret2; exact ⟨ret_int2 E1.out.1.symm E1.out.2.symm, rfl⟩))

/-! ### osierref01.Get -/
set_option maxHeartbeats 400000 in
theorem rget_ok (a : Option Addr) (cap : Nat) (l : List Bool) (w : World) (hl : l.length ≤ maxLen) (hc : Cells w a (l.map Value.bool)) :
    Calls Try.prog 24 #[.slice a l.length cap] w fun e w' => e = .returned (.tuple #[.int .i64 (getS l), .int .i64 (getE l)]) ∧ w = w' := by
  unfold maxLen at hl
  by_cases h : l.length ≤ 62
  · have e1 : getS l = (getN l : Nat) ∧ getE l = 0 := by unfold getS getE; constructor <;> rw [if_pos h]
    have E1 := Lib.hid e1; clear e1
    go_enter Try.func24, Try.ntmps24
    go_wp2
    go_loop [4, 5] (fun n i => ∃ k : Nat, k ≤ l.length ∧ i = .int .i64 k ∧ n = .int .i64 ((getN (l.take k) : Nat) : Int)) (fun _ i => l.length - (intOf i).toNat)
    case atStart => exact ⟨0, Nat.zero_le _, rfl, rfl⟩
    case round =>
      obtain ⟨k, hk, rfl, rfl⟩ := hrel
      by_cases hlt : k < l.length
      · obtain ⟨x, hx⟩ : ∃ x, l[k]? = some x := ⟨l[k], List.getElem?_eq_getElem hlt⟩
        obtain ⟨b, off, rfl, hb, hcell⟩ := hc.at_ (bools_at l k x hx)
        have hwp := wrap_pow62 k (by omega)
        have hbd := getN_take_bd l (k + 1) h
        have hbd0 := getN_take_bd l k h
        have hp2 := two_pow_62 k (by omega)
        cases x
        · have H1 := Lib.hid (same_next l k hx); have Hx := Lib.hid hx; clear hx
          go_wp2
          go_round
          case rel => exact ⟨k + 1, by omega, by go_num, by rw [H1.out]⟩
          case measure => simp [intOf]; omega
        · have h1 := add_next l k hx
          have Hx := Lib.hid hx; clear hx
          have hs : (getN (l.take k) : Int) + 2 ^ k ≤ 4611686018427387903 := by omega
          have H1 := Lib.hid h1; clear h1
          go_wp2
          go_round
          case rel => exact ⟨k + 1, by omega, by go_num, by rw [← H1.out]⟩
          case measure => simp [intOf]; omega
      · have hkk : k = l.length := by omega
        have H := Lib.hid hkk; clear hkk
        go_wp2
        go_ret2
        exact ⟨ret_int2 (by rw [H.out, List.take_length]; exact E1.out.1.symm) E1.out.2.symm, rfl⟩
  · have e1 : getS l = 0 ∧ getE l = 1 := by unfold getS getE; constructor <;> rw [if_neg h]
    have E1 := Lib.hid e1; clear e1
    go_enter Try.func24, Try.ntmps24
    go_wp2
    all_goals (first | (exfalso; omega) | (go_ret2; exact ⟨ret_int2 E1.out.1.symm E1.out.2.symm, rfl⟩))
end Go.Proofs.Ytfijnfokfkpbpaa
