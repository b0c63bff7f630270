/- The arguments of laws, opened: a slice of bools as a list. -/
import Derived.Test.YtfijnfokfkpbpaaBase
import Derived.ProofKit
import Derived.OpenShut
import Derived.ShutString
import Derived.ChangeOld
import Derived.Below
import Derived.Deep.Slices
import Derived.Deep.Grids
namespace Go.Proofs.Ytfijnfokfkpbpaa
open Go.ChangeShapes Go.WideShapes Go.ChangeAt Go.RowKit Go.Deep

theorem own : ownKnob Try.prog.godebug = none := by kernel_rfl
theorem laidOut : laidOutB Try.prog = true := by kernel_rfl

section
variable {H : Type} {enc : TypeId × Value → H} {P : Program} {w : World} {base : Nat} {held : Bool}
theorem spot_none {w : World} {a : Addr} {v : Value} (h : w.cell? a = some v) : a.spot = none := by
  obtain ⟨b, o, s⟩ := a
  cases s with
  | none => rfl
  | some x => simp [World.cell?] at h; split at h <;> simp_all
theorem cells_of_all {w : World} {a : Addr} {xs : List Value} (h : ∀ i v, xs[i]? = some v → w.cell? (a.add i) = some v) : Cells w (some a) xs := fun hx => by
  have hl : 0 < xs.length := List.length_pos_iff.2 hx
  have h0 := h 0 xs[0] (List.getElem?_eq_getElem hl)
  rw [show a.add 0 = a from by simp [Addr.add]] at h0
  have hs := spot_none h0
  obtain ⟨b, o, s⟩ := a
  simp only at hs
  subst hs
  refine ⟨b, o, rfl, World.block_lt_of_cell? w _ h0, fun i v hv => ?_⟩
  have hi := h i v hv
  rcases Nat.eq_zero_or_pos i with e | e
  · subst e; simpa [Addr.add] using hi
  · rwa [show (⟨b, o, none⟩ : Addr).add i = ⟨b, o + i, none⟩ from by simp [Addr.add]; omega] at hi
theorem open_boolsC {r : Reach} {b0 : Nat} {t e : TypeId} {v : Value} {d : DataW H} {ps : List MemPlace} (ht : P.underlying t = some (.slice e)) (he : P.underlying e = some .bool) (hc : P.cellsOf e = 1)
    (hval : Value.okWide P w r b0 t v) (hd : DataW.Trod enc P w base (fun _ => true) held t v d ps) :
    ∃ a cap l, v = .slice a (List.length l) cap ∧ l.length ≤ maxLen ∧ Cells w a (l.map Value.bool) := by
  obtain ⟨a0, len, cap, rfl⟩ := okWide_slice ht hval
  obtain ⟨fuel, hf⟩ := hd
  rcases open_bools ht he hc hf with ⟨hcs, _⟩ | ⟨x, l, c, B, hcs, _, hl, hm, _, hcell⟩
  · simp [Value.cells] at hcs
    obtain ⟨rfl, rfl, rfl⟩ := hcs
    exact ⟨none, 0, [], rfl, by simp, Cells.nil _ _⟩
  · simp [Value.cells] at hcs
    obtain ⟨rfl, rfl, rfl⟩ := hcs
    refine ⟨some x, cap, (List.range len).map B, by simp, by simp; omega, cells_of_all fun i v hv => ?_⟩
    simp only [List.map_map, List.getElem?_map] at hv
    have hi : i < len := by
      rcases Nat.lt_or_ge i len with h | h
      · exact h
      · rw [List.getElem?_eq_none (by simpa using h)] at hv; simp at hv
    simp [List.getElem?_range hi] at hv
    rw [hcell i (by omega), ← hv]
end
end Go.Proofs.Ytfijnfokfkpbpaa
