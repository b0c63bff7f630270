/- keeps (layer 3): its contract: a set of nodes marked in a slice of bools. -/
import Derived.Test.YtoegenacjhmicaaNodeG
namespace Go.Proofs.Ytoegenacjhmicaa
open Go.RowKit HP NP
/-- block sb is a row of n bools, made from R on: the set s -/
def SeenAt (w : World) (R sb cap n : Nat) (s : Nat → Bool) : Prop := w.ownsRow R 4 1 (.slice (some ⟨sb, 0, none⟩) n cap) n ((List.range n).map fun j => .bool (s j))
def TB1 (t : TypeId) : Bool := t == 4
theorem SeenAt.kb {w w' : World} {R sb cap n : Nat} {s : Nat → Bool} (h : SeenAt w R sb cap n s) (hg : w.grownBy w' (some sb)) : Kb TB1 w w' := by
  obtain ⟨cs, hc, _⟩ := own_blk h
  exact (Kp.grown (T := TB1) (B := 0) hg (fun k e _ => by injection e with e; subst e; exact ⟨Nat.zero_le _, cs, _, _, hc, by rfl⟩)).kb
theorem SeenAt.cell {w : World} {R sb cap n : Nat} {s : Nat → Bool} (h : SeenAt w R sb cap n s) {k : Nat} (hk : k < n) : sb < w.heap.size ∧ w.cell? ⟨sb, k, none⟩ = some (.bool (s k)) ∧ w.frozen? ⟨sb, k, none⟩ = false := by
  obtain ⟨cs, hc, _⟩ := own_blk h
  refine ⟨hc.lt, ?_, World.ownsRow.frozenAt h k⟩
  rw [World.ownsRow.cellAt h k (by omega)]
  simp [hk]
theorem SeenAt.set {w : World} {R sb cap n : Nat} {s : Nat → Bool} (h : SeenAt w R sb cap n s) (k : Nat) : SeenAt (w.setCell ⟨sb, k, none⟩ (.bool true)) R sb cap n (setB s k) ∧ w.grownBy (w.setCell ⟨sb, k, none⟩ (.bool true)) (some sb) := by
  obtain ⟨h1, h2⟩ := World.ownsRow.stored h k (.bool true)
  refine ⟨?_, h2⟩
  unfold SeenAt
  have e : ((List.range n).map fun j => Value.bool (s j)).set k (.bool true) = (List.range n).map fun j => Value.bool (setB s k j) := by
    apply List.ext_getElem?
    intro j
    rw [List.getElem?_set]
    by_cases hj : k = j
    · subst hj
      by_cases hkn : k < n
      · simp [hkn, setB]
      · simp [hkn]
    · rw [if_neg hj]
      by_cases hjn : j < n
      · simp [hjn, setB, Ne.symm hj]
      · simp [hjn]
  rw [← e]; exact h1
theorem SeenAt.keep {T : TypeId → Bool} {w w' : World} {R sb cap n : Nat} {s : Nat → Bool} (h : SeenAt w R sb cap n s) (hk : Kb T w w') (ht : T 4 = false) : SeenAt w' R sb cap n s := own_kb h hk ht
end Go.Proofs.Ytoegenacjhmicaa
