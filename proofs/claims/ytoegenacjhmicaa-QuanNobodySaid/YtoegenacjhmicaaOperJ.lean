/- The laws of layer 4: awake. -/
import Derived.Test.YtoegenacjhmicaaOperI
namespace Go.Proofs.Ytoegenacjhmicaa
open Go.RowKit HP NP
def Fine (w : World) (e : Ending) (w' : World) : Prop := e = .returned (.bool true) ∧ Below w.heap.size w w'
theorem findE_yes {S : NS} {k : Nat} (h : isB S.l k = true) : findE S (k : Int) = 0 := by unfold findE; rw [isK_nat, h]; rfl
theorem evB_yes {S : NS} {k : Nat} {g : (Nat → Bool) → Bool} (h : Den S k g) (vals : List Bool) : evB S vals (k : Int) = g (rho vals) := by unfold evB; rw [isK_nat, h.is]; exact h.says _
theorem NP.Den.ge2 {S : NS} {k : Nat} {g : (Nat → Bool) → Bool} (h : Den S k g) (ρ σ : Nat → Bool) (hn : g ρ = true) (hm : g σ = false) : 2 ≤ k := by
  rcases Nat.lt_or_ge k 2 with h2 | h2
  · exfalso
    have a := h.says ρ; have b := h.says σ
    rw [den_leaf _ _ h2] at a b
    rw [hn] at a; rw [hm] at b; rw [a] at b; cases b
  · exact h2
end Go.Proofs.Ytoegenacjhmicaa
