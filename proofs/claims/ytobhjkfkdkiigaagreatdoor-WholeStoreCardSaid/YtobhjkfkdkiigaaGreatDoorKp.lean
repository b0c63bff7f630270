/- What a call may have changed, by types (Kp T B w w'): the old blocks below B are as they were, and so is each old block whose cells are of no type of T. -/
import Derived.Test.YtobhjkfkdkiigaaGreatDoorBase
namespace Go.Proofs.YtobhjkfkdkiigaaGreatDoor
open Go.RowKit
/-- block k of w lies from B on and has cells of a type of T -/
def TF (T : TypeId → Bool) (B : Nat) (w : World) (k : Nat) : Prop := B ≤ k ∧ ∃ cs t f, w.heap[k]? = some (.cells cs t f) ∧ T t = true
abbrev Kp (T : TypeId → Bool) (B : Nat) (w w' : World) : Prop := Only (TF T B w) w w'
theorem Kp.refl (T : TypeId → Bool) (B : Nat) (w : World) : Kp T B w w := Only.refl _ _
theorem Kp.trans {T : TypeId → Bool} {B : Nat} {a b c : World} (h : Kp T B a b) (k : Kp T B b c) : Kp T B a c := by
  refine Only.trans h k fun i hi hg => ?_
  refine Classical.byContradiction fun hn => hn ?_
  obtain ⟨h1, cs, t, f, h2, h3⟩ := hg
  exact ⟨h1, cs, t, f, by rw [← h.block i hi hn]; exact h2, h3⟩
theorem Kp.of_below {T : TypeId → Bool} {B : Nat} {w w' : World} (h : Below w.heap.size w w') : Kp T B w w' := ⟨h.os, h.tape, h.output, h.size, fun k hk _ => h.block k hk⟩
theorem Kp.mono {T T' : TypeId → Bool} {B B' : Nat} {w w' : World} (h : Kp T B w w') (ht : ∀ t, T t = true → T' t = true) (hb : B' ≤ B) : Kp T' B' w w' :=
  Only.mono h fun _ _ ⟨h1, cs, t, f, h2, h3⟩ => ⟨Nat.le_trans hb h1, cs, t, f, h2, ht t h3⟩
theorem Kp.set {T : TypeId → Bool} {B : Nat} {w : World} {b : Nat} {t : TypeId} {cs : Array Value} (hb : Blk w b t cs) (ht : T t = true) (hB : B ≤ b) (i : Nat) (u : Value) : Kp T B w (w.setCell ⟨b, i, none⟩ u) :=
  (Only.refl _ _).setCell (fun _ => ⟨hB, cs, t, _, hb, ht⟩) u
theorem Kp.drewN {T : TypeId → Bool} {B : Nat} {w w' : World} (h : Kp T B w w') (n : Nat) : Kp T B w (w'.drewN n) := Only.drewN h n
theorem Kp.alloc {T : TypeId → Bool} {B : Nat} {w w' : World} (h : Kp T B w w') (o : Obj) : Kp T B w (w'.alloc o) := Only.alloc h o
theorem Kp.blk {T : TypeId → Bool} {B : Nat} {w w' : World} {b : Nat} {t : TypeId} {cs : Array Value} (h : Kp T B w w') (hb : Blk w b t cs) (ht : T t = false) : Blk w' b t cs := by
  refine hb.only h ?_
  rintro ⟨_, cs', t', f, h2, h3⟩
  unfold Blk at hb
  rw [hb] at h2
  injection h2 with h2
  injection h2 with _ h2 _
  rw [← h2, ht] at h3
  cases h3
theorem Kp.low {T : TypeId → Bool} {B : Nat} {w w' : World} (h : Kp T B w w') (hB : B ≤ w.heap.size) : Below B w w' :=
  Only.below h (fun k hk _ hf => by have := hf.1; omega) hB
/-- each old block whose cells are of no type of T is as it was -/
def Kb (T : TypeId → Bool) (w w' : World) : Prop := ∀ b t cs, Blk w b t cs → T t = false → Blk w' b t cs
theorem Kp.kb {T : TypeId → Bool} {B : Nat} {w w' : World} (h : Kp T B w w') : Kb T w w' := fun _ _ _ hb ht => h.blk hb ht
theorem Kb.trans {T : TypeId → Bool} {a b c : World} (h : Kb T a b) (k : Kb T b c) : Kb T a c := fun _ _ _ hb ht => k _ _ _ (h _ _ _ hb ht) ht
/-- only a map has turned -/
theorem Kb.map {w w' : World} {b : Nat} {es : Array MapEntry} {c : Nat} (hb : w.heap[b]? = some (.map es c)) (h : w.grownBy w' (some b)) (T : TypeId → Bool) : Kb T w w' := fun j t cs hj _ => hj.grown h (by
  intro e
  injection e with e
  subst e
  unfold Blk at hj
  rw [hb] at hj
  cases hj)
/-- growing in a row of a type of T, or in no old block -/
theorem Kp.grown {T : TypeId → Bool} {B : Nat} {w w' : World} {row : Option Nat} (h : w.grownBy w' row) (hr : ∀ k, row = some k → k < w.heap.size → TF T B w k) : Kp T B w w' :=
  Only.of_grown h fun k hk e => hr k e.symm hk
/-- two blocks of two types are two -/
theorem Blk.ne {w : World} {a b : Nat} {t u : TypeId} {cs ds : Array Value} (h : Blk w a t cs) (k : Blk w b u ds) (hne : t ≠ u) : a ≠ b := by
  rintro rfl
  unfold Blk at h k
  rw [h] at k
  injection k with k
  injection k with _ k _
  exact hne k
end Go.Proofs.YtobhjkfkdkiigaaGreatDoor
