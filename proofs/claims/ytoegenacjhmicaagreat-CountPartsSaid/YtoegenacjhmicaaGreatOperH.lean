/- The laws of layer 4: bits of sixteen-bit numbers, begun, must, does. -/
import Derived.Test.YtoegenacjhmicaaGreatTabM
namespace Go.Proofs.YtoegenacjhmicaaGreat
open Go.RowKit HP NP
theorem wrapN (n : Nat) (h : n < 9223372036854775808) : IntKind.i64.wrap (n : Int) = (n : Int) := by rw [IntKind.wrap_i64]; omega
theorem i64_and (a b : Nat) (ha : a < 65536) (hb : b < 65536) : bits .and .i64 (a : Int) (b : Int) = ((a &&& b : Nat) : Int) := by
  show IntKind.i64.wrap ((BitVec.ofInt 64 (a : Int) &&& BitVec.ofInt 64 (b : Int)).toNat : Int) = _
  rw [BitVec.toNat_and, BitVec.ofInt_natCast, BitVec.ofInt_natCast, BitVec.toNat_ofNat, BitVec.toNat_ofNat, Nat.mod_eq_of_lt (a := a) (by omega), Nat.mod_eq_of_lt (a := b) (by omega)]
  exact wrapN _ (by have := Nat.and_le_left (n := a) (m := b); omega)
theorem i64_or (a b : Nat) (ha : a < 65536) (hb : b < 65536) : bits .or .i64 (a : Int) (b : Int) = ((a ||| b : Nat) : Int) := by
  show IntKind.i64.wrap ((BitVec.ofInt 64 (a : Int) ||| BitVec.ofInt 64 (b : Int)).toNat : Int) = _
  rw [BitVec.toNat_or, BitVec.ofInt_natCast, BitVec.ofInt_natCast, BitVec.toNat_ofNat, BitVec.toNat_ofNat, Nat.mod_eq_of_lt (a := a) (by omega), Nat.mod_eq_of_lt (a := b) (by omega)]
  exact wrapN _ (by have := Nat.or_lt_two_pow (x := a) (y := b) (n := 16) ha hb; omega)
theorem i64_xor (a b : Nat) (ha : a < 65536) (hb : b < 65536) : bits .xor .i64 (a : Int) (b : Int) = ((a ^^^ b : Nat) : Int) := by
  show IntKind.i64.wrap ((BitVec.ofInt 64 (a : Int) ^^^ BitVec.ofInt 64 (b : Int)).toNat : Int) = _
  rw [BitVec.toNat_xor, BitVec.ofInt_natCast, BitVec.ofInt_natCast, BitVec.toNat_ofNat, BitVec.toNat_ofNat, Nat.mod_eq_of_lt (a := a) (by omega), Nat.mod_eq_of_lt (a := b) (by omega)]
  exact wrapN _ (by have := Nat.xor_lt_two_pow (x := a) (y := b) (n := 16) ha hb; omega)
def anN (a b : Nat) : Nat := a &&& (2 ^ 64 - (b + 1))
theorem i64_andNot (a b : Nat) (ha : a < 65536) (hb : b < 65536) : bits .andNot .i64 (a : Int) (b : Int) = ((anN a b : Nat) : Int) := by
  show IntKind.i64.wrap ((BitVec.ofInt 64 (a : Int) &&& ~~~ (BitVec.ofInt 64 (b : Int))).toNat : Int) = _
  rw [BitVec.toNat_and, BitVec.toNat_not, BitVec.ofInt_natCast, BitVec.ofInt_natCast, BitVec.toNat_ofNat, BitVec.toNat_ofNat, Nat.mod_eq_of_lt (a := a) (by omega), Nat.mod_eq_of_lt (a := b) (by omega), Nat.sub_sub, Nat.add_comm 1 b]
  exact wrapN _ (by have := Nat.and_le_left (n := a) (m := 2 ^ 64 - (b + 1)); omega)
theorem anN_bit (a b i : Nat) (hb : b < 65536) (hi : i < 16) : (anN a b).testBit i = (a.testBit i && !b.testBit i) := by
  unfold anN
  rw [Nat.testBit_and, Nat.testBit_two_pow_sub_succ (by omega), decide_eq_true (p := i < 64) (by omega), Bool.true_and]
theorem anN_lt (a b : Nat) (ha : a < 65536) : anN a b < 65536 := by have := Nat.and_le_left (n := a) (m := 2 ^ 64 - (b + 1)); unfold anN; omega
theorem eq16 {X Y : Nat} (hX : X < 65536) (hY : Y < 65536) (h : ∀ i, i < 16 → X.testBit i = Y.testBit i) : X = Y := by
  have a := ttF_bits X 16
  have b := ttF_bits Y 16
  rw [ttF_congr (g' := fun i => Y.testBit i) h] at a
  rw [Nat.mod_eq_of_lt hX] at a
  rw [Nat.mod_eq_of_lt hY] at b
  exact a.symm.trans b
def mustF (k : Nat) (a b c : Bool) : Bool := if k = 0 then !a else if k = 1 then a && b else if k = 2 then a || b else if k = 3 then a ^^ b else if k = 4 then a && !b else (if a then b else c)
def mustN (k a b c : Nat) : Nat := ttF (fun i => mustF k (a.testBit i) (b.testBit i) (c.testBit i)) 16
theorem mustN_lt (k a b c : Nat) : mustN k a b c < 65536 := ttF_lt _ 16
theorem mustN_tbl (k a b c : Nat) (ρ : Nat → Bool) : tbl (mustN k a b c) ρ = mustF k (tbl a ρ) (tbl b ρ) (tbl c ρ) := ttF_testBit _ 16 _ (ix_lt ρ)
theorem mustN_eq {k a b c X : Nat} (hX : X < 65536) (h : ∀ i, i < 16 → X.testBit i = mustF k (a.testBit i) (b.testBit i) (c.testBit i)) : X = mustN k a b c :=
  eq16 hX (mustN_lt _ _ _ _) fun i hi => by rw [h i hi]; exact (ttF_testBit (fun i => mustF k (a.testBit i) (b.testBit i) (c.testBit i)) 16 i hi).symm
theorem ones_bit (i : Nat) (hi : i < 16) : (65535 : Nat).testBit i = true := by
  have : ∀ i, i < 16 → (65535 : Nat).testBit i = true := by decide
  exact this i hi
theorem nnew_c (w : World) (B : Nat) (hB : B ≤ w.heap.size) (v b : Nat) (hv : v ≤ 256) (h2 : 2 ≤ b) (hb : b ≤ 1048576) : Calls Tryz.prog 13 #[.int .i64 (v : Int), .int .i64 (b : Int)] w fun e w' => ∃ p, e = .returned (.tuple #[.pointer (some ⟨p, 0, none⟩), .int .i64 0]) ∧ Sto w' B p (newS v b) ∧ Below w.heap.size w w' ∧ w.heap.size ≤ p := by
  refine (nnew_yes w B hB v b hv h2 hb).mono ?_
  rintro e w1 ⟨p, rfl, h1, h2, h3⟩
  exact ⟨p, rfl, h1, h2, h3⟩
def BegunPost (B n : Nat) (w : World) (e : Ending) (w' : World) : Prop := ∃ p q, e = .returned (.tuple #[.pointer (some ⟨p, 0, none⟩), .pointer (some ⟨q, 0, none⟩), .bool true]) ∧ Sto w' B p (newS 4 n) ∧ OpsM w' B p q (newS 4 n) ∧ Below w.heap.size w w'
end Go.Proofs.YtoegenacjhmicaaGreat
