/- Layer 6: maps of numbers and sets (IMap, SetAt); what a call with maps of its own may have changed (Om). -/
import Derived.Test.YtoegenacjhmicaaNodeF
import Derived.Test.YtoegenacjhmicaaNodeT
import Derived.Test.YtoegenacjhmicaaMap
import Derived.Test.YtoegenacjhmicaaCount0
import Derived.Conc.MuLone
namespace Go.Proofs.Ytoegenacjhmicaa
open Go.RowKit HP NP
/-- a set of numbers as a map of bools -/
def setM (s : Nat → Bool) : Lit → Option Value
  | .int .i64 z => if decide (0 ≤ z) && s z.toNat then some (.bool true) else none
  | _ => none
theorem setM_at (s : Nat → Bool) (k : Nat) : setM s (.int .i64 (k : Int)) = if s k then some (.bool true) else none := by simp [setM]
theorem setM_set (s : Nat → Bool) (k : Nat) : setF (setM s) (.int .i64 (k : Int)) (.bool true) = setM (setB s k) := by
  funext l
  unfold setF
  by_cases e : l = .int .i64 (k : Int)
  · subst e
    simp [setM, setB, Lit.sameKey]
  · rw [Maps.sameKey_ne e]
    simp only [Bool.false_eq_true, if_false]
    cases l with
    | int kd z =>
      cases kd
      case i64 =>
        simp only [setM]
        by_cases hz : 0 ≤ z
        · have : z.toNat ≠ k := by rintro rfl; exact e (by rw [Int.toNat_of_nonneg hz])
          simp [setB, this]
        · simp [hz]
      all_goals rfl
    | _ => rfl
theorem keyI (k : Nat) (h : k ≤ 1048576) : keyOf Try.prog 3 (.int .i64 (k : Int)) = some (.int .i64 (k : Int)) := Maps.keyOf_int_mk Try.underlying3 (by rw [← IntWalk.wrap64_in (k : Int) ⟨by omega, by omega⟩]; exact wrap64_wf _)
theorem zeroB (w : World) : (zeroValue 4).run Try.prog w = .ok (.bool false) w := by kernel_rfl
def SetAt (w : World) (b : Nat) (n : Nat) (s : Nat → Bool) : Prop := MapAt w Try.prog 3 b (cntS s n) (setM s)
/-! ### a map of numbers -/
def intM (m : Nat → Option Nat) : Lit → Option Value
  | .int .i64 z => if decide (0 ≤ z) then (m z.toNat).map fun n : Nat => .int .i64 (n : Int) else none
  | _ => none
theorem intM_at (m : Nat → Option Nat) (k : Nat) : intM m (.int .i64 (k : Int)) = (m k).map fun n : Nat => .int .i64 (n : Int) := by
  show (if decide ((0 : Int) ≤ (k : Int)) then (m (k : Int).toNat).map (fun n : Nat => Value.int .i64 (n : Int)) else none) = _
  rw [decide_eq_true (by omega), if_pos rfl, Int.toNat_natCast]
def updM (m : Nat → Option Nat) (k n : Nat) : Nat → Option Nat := fun j => if j = k then some n else m j
theorem intM_set (m : Nat → Option Nat) (k n : Nat) : setF (intM m) (.int .i64 (k : Int)) (.int .i64 (n : Int)) = intM (updM m k n) := by
  funext l
  unfold setF
  by_cases e : l = .int .i64 (k : Int)
  · subst e
    simp [intM, updM, Lit.sameKey]
  · rw [Maps.sameKey_ne e]
    simp only [Bool.false_eq_true, if_false]
    cases l with
    | int kd z =>
      cases kd
      case i64 =>
        simp only [intM]
        by_cases hz : 0 ≤ z
        · have : z.toNat ≠ k := by rintro rfl; exact e (by rw [Int.toNat_of_nonneg hz])
          simp [updM, this]
        · simp [hz]
      all_goals rfl
    | _ => rfl
def IMap (w : World) (b L : Nat) (m : Nat → Option Nat) : Prop := MapAt w Try.prog 3 b (cntS (fun k => (m k).isSome) L) (intM m)
theorem zeroI (w : World) : (zeroValue 3).run Try.prog w = .ok (.int .i64 0) w := by kernel_rfl
theorem IMap.new (w : World) (L : Nat) : IMap (w.alloc (.map #[] 0)) w.heap.size L (fun _ => none) := by
  have h := MapAt.made w Try.prog 3
  have e : intM (fun _ => none) = fun _ => none := by
    funext l
    cases l with
    | int kd z => cases kd <;> simp [intM]
    | _ => rfl
  unfold IMap
  rw [e]
  have c : cntS (fun k => ((fun _ => none : Nat → Option Nat) k).isSome) L = 0 := by unfold cntS; simp
  rw [c]
  exact h
theorem cnt_updM {m : Nat → Option Nat} {k n L : Nat} (hk : k < L) (h0 : m k = none) : cntS (fun j => (updM m k n j).isSome) L = cntS (fun j => (m j).isSome) L + 1 := by
  have h := cntS_set (s := fun j => (m j).isSome) (n := L) (k := k) hk (by simp [h0])
  rw [← h]
  refine cntS_congr L fun j => ?_
  unfold updM setB
  by_cases e : j = k <;> simp [e]
end Go.Proofs.Ytoegenacjhmicaa
