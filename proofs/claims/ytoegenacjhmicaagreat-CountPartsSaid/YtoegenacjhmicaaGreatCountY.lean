/- Layer 6: what the laws ask: Make on the store, hangs, trues, four. -/
import Derived.Test.YtoegenacjhmicaaGreatCountX
import Derived.Test.YtoegenacjhmicaaGreatTabM
import Derived.BigQuiet
namespace Go.Proofs.YtoegenacjhmicaaGreat
open Go.RowKit HP NP
theorem low6 (z : Int) : ∃ a : Nat, bits .and .i64 z 65535 = (a : Int) ∧ a < 65536 := ⟨(z % 65536).toNat, by rw [show bits .and .i64 z 65535 = z % 65536 from and_low z 16 (by decide)]; omega, by omega⟩
theorem xor6 (a b : Nat) (ha : a < 65536) (hb : b < 65536) : bits .xor .i64 (a : Int) (b : Int) = ((a ^^^ b : Nat) : Int) := by
  show IntKind.i64.wrap ((BitVec.ofInt 64 (a : Int) ^^^ BitVec.ofInt 64 (b : Int)).toNat : Int) = _
  rw [BitVec.toNat_xor, BitVec.ofInt_natCast, BitVec.ofInt_natCast, BitVec.toNat_ofNat, BitVec.toNat_ofNat, Nat.mod_eq_of_lt (a := a) (by omega), Nat.mod_eq_of_lt (a := b) (by omega), IntKind.wrap_i64]
  have := Nat.xor_lt_two_pow (x := a) (y := b) (n := 16) ha hb
  omega
theorem made6 {w0 w : World} {p X : Nat} (h : CSt w0 w p (newS 4 1000)) (hX : X < 65536) :
    Calls Tryz.prog 6 #[.pointer (some ⟨p, 0, none⟩), .int .i64 (X : Int)] w fun e w' => ∃ S' k, e = .returned (.tuple #[.int .i64 ((k : Nat) : Int), .bool true]) ∧ CSt w0 w' p S' ∧ Den S' k (tbl X) := by
  refine (make_ok w w0.heap.size p _ X hX h.sto h.bel.size rfl).mono ?_
  rintro e w' ⟨S', hs, hk, ⟨k, rfl, hg⟩ | ⟨_, hn⟩⟩
  · exact ⟨S', k, rfl, ⟨hs, hg.ext.vars.trans h.v4, h.bel.trans (hk.low h.bel.size)⟩, hg.den⟩
  · have := hn.room
    rw [newS_cnt] at this
    exact absurd (show (newS 4 1000).budget < 2 + 15 from this) (by decide)
theorem truesP {X n : Nat} {b : Bool} (h : X.testBit n = b) : (List.range (n + 1)).filter (fun n => X.testBit n) = (List.range n).filter (fun n => X.testBit n) ++ (if b then [n] else []) := by
  rw [List.range_succ, List.filter_append]
  congr 1
  cases b <;> simp [List.filter, h]
theorem four6 (w : World) : Calls Tryz.prog 11 #[] w fun e w' => e = .returned (.slice (some ⟨w.heap.size, 0, none⟩) 4 4) ∧ w' = w.alloc (.cells #[.int .i64 0, .int .i64 1, .int .i64 2, .int .i64 3] 3) := by
  go_enter Tryz.func11, Tryz.ntmps11
  go_wp2_with fail
  go_ret
  exact ⟨rfl, rfl⟩
end Go.Proofs.YtoegenacjhmicaaGreat
