/- marks and Size (layer 3): their contracts. -/
import Derived.Test.YtoegenacjhmicaaNodeF
import Derived.Test.YtoegenacjhmicaaNodeT
import Derived.Test.YtoegenacjhmicaaMap
namespace Go.Proofs.Ytoegenacjhmicaa
open Go.RowKit HP NP
/-- a set of numbers as a map of bools -/
def setM (s : Nat → Bool) : Lit → Option Value
  | .int .i64 z => if decide (0 ≤ z) && s z.toNat then some (.bool true) else none
  | _ => none
theorem setM_at (s : Nat → Bool) (k : Nat) : setM s (.int .i64 (k : Int)) = if s k then some (.bool true) else none := by simp [setM]
theorem setM_set (s : Nat → Bool) (k : Nat) : setF (setM s) (.int .i64 (k : Int)) (.bool true) = setM (setB s k) := by
  funext l
  unfold setF
  by_cases e : l = .int .i64 (k : Int)
  · subst e
    simp [setM, setB, Lit.sameKey]
  · rw [Maps.sameKey_ne e]
    simp only [Bool.false_eq_true, if_false]
    cases l with
    | int kd z =>
      cases kd
      case i64 =>
        simp only [setM]
        by_cases hz : 0 ≤ z
        · have : z.toNat ≠ k := by rintro rfl; exact e (by rw [Int.toNat_of_nonneg hz])
          simp [setB, this]
        · simp [hz]
      all_goals rfl
    | _ => rfl
theorem keyI (k : Nat) (h : k ≤ 1048576) : keyOf Try.prog 3 (.int .i64 (k : Int)) = some (.int .i64 (k : Int)) := Maps.keyOf_int_mk Try.underlying3 (by rw [← IntWalk.wrap64_in (k : Int) ⟨by omega, by omega⟩]; exact wrap64_wf _)
theorem zeroB (w : World) : (zeroValue 4).run Try.prog w = .ok (.bool false) w := by kernel_rfl
def SetAt (w : World) (b : Nat) (n : Nat) (s : Nat → Bool) : Prop := MapAt w Try.prog 3 b (cntS s n) (setM s)
/-- how many nodes one is of -/
def SizePost (S : NS) (k : Int) (w : World) (e : Ending) (w' : World) : Prop :=
  (∃ n : Nat, e = .returned (.tuple #[.int .i64 (n : Int), .int .i64 (findE S k)]) ∧ (isK S.l k = false → n = 0) ∧ (isK S.l k = true → ∃ s, Adds S.l k.toNat (fun _ => false) s ∧ n = cntS s S.l.length)) ∧ Below w.heap.size w w'
end Go.Proofs.Ytoegenacjhmicaa
